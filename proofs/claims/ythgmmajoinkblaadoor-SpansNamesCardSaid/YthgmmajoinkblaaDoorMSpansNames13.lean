/-
  Joined texts: BackMath, HdText, SpText, SpText2, FuT, Sp4, Sp5.
-/
import Derived.Test.YthgmmajoinkblaaDoorMSpansNames11
import Derived.Test.YthgmmajoinkblaaDoorMSpansNames12
import Derived.Lib.ParseIntBCases
import Derived.Test.YthgmmajoinkblaaDoorMSpansNames5
import Derived.Test.YthgmmajoinkblaaDoorMSpansNames6
import Derived.Lib.JoinLaws
import Derived.Test.YthgmmajoinkblaaDoorMSpansNames1
import Derived.Lib.ItoaMem
import Derived.Lib.AppendIntMem
import Derived.Lib.Walk
import Derived.BigCall
import Derived.BigGuard
import Derived.Test.YthgmmajoinkblaaDoorMSpansNames4
/-
  What is written is read back, and no other text is read as it: plain laws; no program in sight.
-/
namespace Go.Proofs.YthgmmajoinkblaaDoor
open Go Go.RowKit Go.Sort

theorem pieces_none {c : UInt8} : ∀ {l : List UInt8}, c ∉ l → pieces c l = [l]
  | [], _ => rfl
  | x :: r, h => by
    rw [pieces, if_neg (fun e => h (by simp [e])), pieces_none (fun hm => h (List.mem_cons_of_mem _ hm))]
    rfl
theorem pieces_cons {c : UInt8} : ∀ {l : List UInt8} (r : List UInt8), c ∉ l → pieces c (l ++ c :: r) = l :: pieces c r
  | [], r, _ => by simp [pieces]
  | x :: l, r, h => by
    rw [List.cons_append, pieces, if_neg (fun e => h (by simp [e])), pieces_cons r (fun hm => h (List.mem_cons_of_mem _ hm))]
    rfl
theorem not_dig {c : UInt8} {l : List UInt8} (hl : l.all isDig = true) (hc : isDig c = false) : c ∉ l := fun hm => by
  have := List.all_eq_true.1 hl c hm
  rw [hc] at this; cases this
theorem dot_dec (n : Nat) : (46 : UInt8) ∉ Lib.decDigits n := not_dig (decDigits_all n) (by decide)
theorem slash_dec (n : Nat) : (47 : UInt8) ∉ Lib.decDigits n := not_dig (decDigits_all n) (by decide)
theorem pieces_dec4 (a b c d : Nat) : pieces 46 (Lib.join [Lib.decDigits a, Lib.decDigits b, Lib.decDigits c, Lib.decDigits d] [46]) = [Lib.decDigits a, Lib.decDigits b, Lib.decDigits c, Lib.decDigits d] := by
  rw [join_four, pieces_cons _ (dot_dec a), pieces_cons _ (dot_dec b), pieces_cons _ (dot_dec c), pieces_none (dot_dec d)]
theorem octets (a : Nat) (h : a < 4294967296) : ((octet a 0 * 256 + octet a 1) * 256 + octet a 2) * 256 + octet a 3 = a := by
  unfold octet
  simp only [Nat.reduceSub, Nat.reducePow, Nat.pow_zero, Nat.div_one]
  omega
theorem parse_text (a : Nat) (h : a < 4294967296) : parseB (textA a).data.toList = some a := by
  show parseB (Lib.join [Lib.decDigits (octet a 0), Lib.decDigits (octet a 1), Lib.decDigits (octet a 2), Lib.decDigits (octet a 3)] [46]) = _
  unfold parseB
  rw [pieces_dec4]
  have r := fun k => (readB_some (l := Lib.decDigits (octet a k)) (m := 255)).2 ⟨rfl, by have := octet_lt a k; omega⟩
  simp only [r]
  rw [octets a h]
theorem join_pieces (c : UInt8) : ∀ (l : List UInt8), Lib.join (pieces c l) [c] = l
  | [] => by simp [pieces, Lib.join_one]
  | x :: r => by
    have ih := join_pieces c r
    cases hp : pieces c r with
    | nil => exact absurd hp (pieces_ne c r)
    | cons y ys =>
      rw [hp] at ih
      rw [pieces]
      split
      · rename_i hx
        subst hx
        rw [hp, Lib.join_cons, List.nil_append]
        rw [Lib.join_cons] at ih
        simp only [Lib.joinTail, List.map_cons, List.flatten_cons, List.append_assoc] at ih ⊢
        rw [ih]
        rfl
      · rw [hp]
        simp only [List.headD_cons, List.tail_cons]
        rw [Lib.join_cons] at ih ⊢
        rw [List.cons_append, ih]
theorem text_parse {l : List UInt8} {b : Nat} (h : parseB l = some b) : (textA b).data.toList = l := by
  unfold parseB at h
  split at h
  · rename_i p q r s hp
    split at h
    · rename_i a b' c d h1 h2 h3 h4
      injection h with h
      have e1 := readB_some.1 h1
      have e2 := readB_some.1 h2
      have e3 := readB_some.1 h3
      have e4 := readB_some.1 h4
      have o0 : octet b 0 = a := by unfold octet; simp only [Nat.reduceSub, Nat.reducePow]; omega
      have o1 : octet b 1 = b' := by unfold octet; simp only [Nat.reduceSub, Nat.reducePow]; omega
      have o2 : octet b 2 = c := by unfold octet; simp only [Nat.reduceSub, Nat.reducePow]; omega
      have o3 : octet b 3 = d := by unfold octet; simp only [Nat.reduceSub, Nat.pow_zero, Nat.div_one]; omega
      show Lib.join [Lib.decDigits (octet b 0), Lib.decDigits (octet b 1), Lib.decDigits (octet b 2), Lib.decDigits (octet b 3)] [46] = l
      rw [o0, o1, o2, o3, e1.1, e2.1, e3.1, e4.1, ← hp, join_pieces]
    · cases h
  · cases h
theorem slash_text (a : Nat) : (47 : UInt8) ∉ (textA a).data.toList := by
  show (47 : UInt8) ∉ Lib.join [Lib.decDigits (octet a 0), Lib.decDigits (octet a 1), Lib.decDigits (octet a 2), Lib.decDigits (octet a 3)] [46]
  rw [join_four]
  intro h
  simp only [List.mem_append, List.mem_cons] at h
  have h47 : (47 : UInt8) ≠ 46 := by decide
  rcases h with h | h | h | h | h | h | h
  · exact slash_dec _ h
  · exact h47 h
  · exact slash_dec _ h
  · exact h47 h
  · exact slash_dec _ h
  · exact h47 h
  · exact slash_dec _ h
theorem index_hit1 {c : UInt8} : ∀ {l : List UInt8} (r : List UInt8), c ∉ l → Lib.index (l ++ c :: r) [c] = l.length
  | [], r, _ => by rw [List.nil_append, index_one, if_pos rfl]; rfl
  | x :: l, r, h => by
    rw [List.cons_append, index_one, if_neg (fun e => h (by simp [e])), index_hit1 r (fun hm => h (List.mem_cons_of_mem _ hm)), if_neg (by omega)]
    simp
theorem cut_hit1 {c : UInt8} {l : List UInt8} (r : List UInt8) (h : c ∉ l) : Lib.cut (l ++ c :: r) [c] = (l, r, true) := by
  unfold Lib.cut
  rw [index_hit1 r h, if_pos (by omega)]
  simp
theorem cut_back {c : UInt8} {l x y : List UInt8} (h : Lib.cut l [c] = (x, y, true)) : l = x ++ c :: y := by
  unfold Lib.cut at h
  split at h
  · rename_i h0
    rcases Lib.index_spec l [c] with ⟨h1, _⟩ | ⟨i, h1, h2, h3, _⟩
    · omega
    · rw [h1] at h
      simp at h
      obtain ⟨rfl, rfl⟩ := h
      have h4 := Lib.occAt_head (c := c) (t := []) rfl h3
      have h5 : i < l.length := (List.getElem?_eq_some_iff.1 h4).1
      have h6 : l.drop i = c :: l.drop (i + 1) := by
        rw [List.drop_eq_getElem_cons h5]
        congr 1
        exact Option.some.inj ((List.getElem?_eq_getElem h5).symm.trans h4)
      rw [← h6, List.take_append_drop]
  · simp at h
theorem textP_list (a : Nat) (n : Nat) : (textP a n).data.toList = (textA a).data.toList ++ 47 :: Lib.decDigits n := by
  unfold textP
  have e : Lib.itoa (n : Int) = Lib.decDigits n := by unfold Lib.itoa; rw [if_neg (by omega), Int.toNat_natCast]
  rw [e]
  simp [ByteArray.data_append]
theorem prefix_text (a n : Nat) (h : a < 4294967296) (hn : n ≤ 32) : ppO (textP a n).data.toList = some (a, n) := by
  unfold ppO
  rw [textP_list, cut_hit1 _ (slash_text a), parse_text a h, (readB_some (m := 32)).2 ⟨rfl, hn⟩]
  rfl
theorem byte_ext {s t : ByteArray} (h : s.data.toList = t.data.toList) : s = t := by
  cases s; cases t
  congr 1
  exact Array.ext' h
theorem text_prefix {l : List UInt8} {a n : Nat} (h : ppO l = some (a, n)) : (textP a n).data.toList = l := by
  unfold ppO at h
  split at h
  · rename_i hc
    obtain ⟨x, hx, h⟩ := Option.bind_eq_some_iff.1 h
    obtain ⟨m, hm, h⟩ := Option.map_eq_some_iff.1 h
    injection h with h1 h2
    subst h1 h2
    have hcut : Lib.cut l [47] = ((Lib.cut l [47]).1, (Lib.cut l [47]).2.1, true) := by rw [← hc]
    rw [textP_list, text_parse hx, (readB_some.1 hm).1]
    exact (cut_back hcut).symm
  · cases h
theorem bits_mask (n : Int) (h0 : 0 ≤ n) (h1 : n ≤ 32) : bitsN (maskA n) = n ∧ bitsE (maskA n) = 0 := by
  have hl := mask_lz n h0 h1
  have h := bits_yes (m := maskA n) (by rw [hl])
  rw [hl] at h
  exact h
/-- How ParsePrefix ends, by cases. -/
theorem pp_cases (l : List UInt8) : (ppE l ≠ 0) ∨ (∃ a n : Nat, ppE l = 0 ∧ ppA l = a ∧ ppN l = n ∧ a < 4294967296 ∧ n ≤ 32 ∧ (textP a n).data.toList = l) := by
  cases h : ppO l with
  | none => left; rw [(pp_none h).1]; decide
  | some p =>
    obtain ⟨a, n⟩ := p
    by_cases hc : chk a n = 0
    · right
      have hy := pp_yes h hc
      have ht := text_prefix h
      unfold ppO at h
      split at h
      · obtain ⟨x, hx, h⟩ := Option.bind_eq_some_iff.1 h
        obtain ⟨m, hm, h⟩ := Option.map_eq_some_iff.1 h
        injection h with h1 h2
        subst h1 h2
        exact ⟨x, m, hy.1, hy.2.1, hy.2.2, parseB_lt hx, readB_le hm, ht⟩
      · cases h
    · left
      rw [(pp_no h hc).1]
      exact hc
theorem pa_cases (l : List UInt8) : (adE (parseB l) = 4 ∧ adV (parseB l) = 0) ∨ (∃ a : Nat, adE (parseB l) = 0 ∧ adV (parseB l) = a ∧ a < 4294967296 ∧ (textA a).data.toList = l) := by
  cases h : parseB l with
  | none => left; exact ⟨rfl, rfl⟩
  | some a => right; exact ⟨a, rfl, rfl, parseB_lt h, text_parse h⟩
end Go.Proofs.YthgmmajoinkblaaDoor

/-
  The text of a header: plain laws; no walk.
-/
namespace Go.Proofs.YthgmmajoinkblaaDoor
open Go Go.RowKit Go.Sort

theorem parseUintM_digits (M : Nat) (hM : M ≤ 18446744073709551615) : ∀ (l : List UInt8) (acc : Nat), l.all isDig = true → valD acc l ≤ M → Lib.parseUintM M acc l = .ok (valD acc l)
  | [], acc, _, _ => rfl
  | c :: r, acc, h, hv => by
    simp only [List.all_cons, Bool.and_eq_true] at h
    have hc := h.1
    unfold isDig at hc
    simp at hc
    have e : valD acc (c :: r) = valD (10 * acc + (c.toNat - 48)) r := rfl
    have hg := valD_ge r (10 * acc + (c.toNat - 48))
    rw [e] at hv
    unfold Lib.parseUintM
    rw [if_pos (by omega), if_neg (by omega), if_neg (by omega), e, show acc * 10 + (c.toNat - 48) = 10 * acc + (c.toNat - 48) by omega]
    exact parseUintM_digits M hM r _ h.2 hv
theorem uint_digits {B n : Nat} (hB : 2 ^ B - 1 ≤ 18446744073709551615) (hn : n ≤ 2 ^ B - 1) : Lib.parseUintB B (Lib.decDigits n) = .ok n := by
  unfold Lib.parseUintB
  rw [if_neg (decDigits_ne_nil n), parseUintM_digits _ hB _ _ (decDigits_all n) (by rw [decDigits_val]; exact hn), decDigits_val]
theorem uint16_digits {n : Nat} (h : n < 65536) : Lib.parseUintB 16 (Lib.decDigits n) = .ok n := uint_digits (by decide) (by rw [show (2 : Nat) ^ 16 - 1 = 65535 from rfl]; omega)
theorem uint8_digits {n : Nat} (h : n < 256) : Lib.parseUintB 8 (Lib.decDigits n) = .ok n := uint_digits (by decide) (by rw [show (2 : Nat) ^ 8 - 1 = 255 from rfl]; omega)
theorem uint16_le {l : List UInt8} {n : Nat} (h : Lib.parseUintB 16 l = .ok n) : n < 65536 := by
  have := Lib.parseUintB_le h
  have e : (2 : Nat) ^ 16 - 1 = 65535 := by decide
  omega
theorem uint8_le {l : List UInt8} {n : Nat} (h : Lib.parseUintB 8 l = .ok n) : n < 256 := by
  have := Lib.parseUintB_le h
  have e : (2 : Nat) ^ 8 - 1 = 255 := by decide
  omega
/-- An address and a port. -/
def endL (a p : Nat) : List UInt8 := (textA a).data.toList ++ 58 :: Lib.decDigits p
/-- A header's text. -/
def Hd.textL (h : Hd) : List UInt8 := endL h.src.toNat h.sp.toNat ++ 32 :: (endL h.dst.toNat h.dp.toNat ++ 32 :: Lib.decDigits h.proto.toNat)
def Hd.text (h : Hd) : ByteArray := ⟨h.textL.toArray⟩
theorem text_list (h : Hd) : h.text.data.toList = h.textL := rfl
theorem not_text {c : UInt8} (hc : isDig c = false) (h46 : c ≠ 46) (a : Nat) : c ∉ (textA a).data.toList := by
  show c ∉ Lib.join [Lib.decDigits (octet a 0), Lib.decDigits (octet a 1), Lib.decDigits (octet a 2), Lib.decDigits (octet a 3)] [46]
  rw [join_four]
  intro h
  simp only [List.mem_append, List.mem_cons] at h
  have hd := fun n => not_dig (decDigits_all n) hc
  rcases h with h | h | h | h | h | h | h
  · exact hd _ h
  · exact h46 h
  · exact hd _ h
  · exact h46 h
  · exact hd _ h
  · exact h46 h
  · exact hd _ h
theorem not_dec {c : UInt8} (hc : isDig c = false) (n : Nat) : c ∉ Lib.decDigits n := not_dig (decDigits_all n) hc
theorem not_end (a p : Nat) : (32 : UInt8) ∉ endL a p := by
  intro h
  unfold endL at h
  rw [List.mem_append, List.mem_cons] at h
  rcases h with h | h | h
  · exact not_text (by decide) (by decide) a h
  · exact absurd h (by decide)
  · exact not_dec (by decide) p h
theorem text_pieces (h : Hd) : pieces 32 h.textL = [endL h.src.toNat h.sp.toNat, endL h.dst.toNat h.dp.toNat, Lib.decDigits h.proto.toNat] := by
  unfold Hd.textL
  rw [pieces_cons _ (not_end _ _), pieces_cons _ (not_end _ _), pieces_none (not_dec (by decide) _)]
theorem end_cut (a p : Nat) : Lib.cut (endL a p) [58] = ((textA a).data.toList, Lib.decDigits p, true) := cut_hit1 _ (not_text (by decide) (by decide) a)
/-- An address and a port of a text. -/
def endO (l : List UInt8) : Option (Nat × Nat) :=
  match parseB (Lib.cut l [58]).1, Lib.parseUintB 16 (Lib.cut l [58]).2.1 with
  | some a, .ok p => some (a, p)
  | _, _ => none
/-- The header that a text is the text of. -/
def hpO (l : List UInt8) : Option Hd :=
  match pieces 32 l with
  | [p, q, r] =>
    match endO p, endO q, Lib.parseUintB 8 r with
    | some (a, m), some (b, n), .ok k => if (⟨a, b, k, m, n⟩ : Hd).textL = l then some ⟨a, b, k, m, n⟩ else none
    | _, _, _ => none
  | _ => none
theorem endO_end {a p : Nat} (ha : a < 4294967296) (hp : p < 65536) : endO (endL a p) = some (a, p) := by
  unfold endO
  rw [end_cut, parse_text a ha, uint16_digits hp]
theorem hpO_text {h : Hd} (ho : h.ok) : hpO h.textL = some h := by
  obtain ⟨s0, s1, d0, d1, p0, p1, a0, a1, b0, b1⟩ := ho
  unfold hpO
  rw [text_pieces]
  simp only [endO_end (a := h.src.toNat) (p := h.sp.toNat) (by omega) (by omega), endO_end (a := h.dst.toNat) (p := h.dp.toNat) (by omega) (by omega), uint8_digits (n := h.proto.toNat) (by omega)]
  have e : (⟨(h.src.toNat : Int), (h.dst.toNat : Int), (h.proto.toNat : Int), (h.sp.toNat : Int), (h.dp.toNat : Int)⟩ : Hd) = h := by
    apply hd_ext <;> simp only <;> omega
  rw [e, if_pos rfl]
theorem endO_lt {l : List UInt8} {a p : Nat} (h : endO l = some (a, p)) : a < 4294967296 ∧ p < 65536 := by
  unfold endO at h
  split at h
  · rename_i h1 h2
    injection h with h; injection h with h3 h4
    subst h3 h4
    exact ⟨parseB_lt h1, uint16_le h2⟩
  · cases h
theorem hpO_some {l : List UInt8} {h : Hd} (e : hpO l = some h) : h.ok ∧ h.textL = l := by
  unfold hpO at e
  split at e
  · split at e
    · rename_i a m b n k h1 h2 h3
      split at e
      · rename_i ht
        injection e with e
        subst e
        have l1 := endO_lt h1
        have l2 := endO_lt h2
        have l3 := uint8_le h3
        exact ⟨⟨by simp only; omega, by simp only; omega, by simp only; omega, by simp only; omega, by simp only; omega, by simp only; omega, by simp only; omega, by simp only; omega, by simp only; omega, by simp only; omega⟩, ht⟩
      · cases e
    · cases e
  · cases e
/-- What Parse answers. -/
def hpV (l : List UInt8) : Hd := (hpO l).getD ⟨0, 0, 0, 0, 0⟩
def hpE (l : List UInt8) : Int := match hpO l with | some _ => 0 | none => 4
theorem hp_none {l : List UInt8} (h : hpO l = none) : hpV l = ⟨0, 0, 0, 0, 0⟩ ∧ hpE l = 4 := by unfold hpV hpE; rw [h]; exact ⟨rfl, rfl⟩
theorem hp_some {l : List UInt8} {x : Hd} (h : hpO l = some x) : hpV l = x ∧ hpE l = 0 := by unfold hpV hpE; rw [h]; exact ⟨rfl, rfl⟩
end Go.Proofs.YthgmmajoinkblaaDoor

/-
  The text of a set of numbers, and what is read of a text: no program in sight.
-/
namespace Go.Proofs.YthgmmajoinkblaaDoor

def SpanV.t (s : SpanV) : List UInt8 := if s.lo = s.hi then Lib.decDigits s.lo.toNat else Lib.decDigits s.lo.toNat ++ 45 :: Lib.decDigits s.hi.toNat
def joinC : List (List UInt8) → List UInt8
  | [] => []
  | [x] => x
  | x :: y :: r => x ++ 44 :: joinC (y :: r)
def setT (F : List SpanV) : List UInt8 := if F = [] then [45] else joinC (F.map SpanV.t)
theorem t_comma (s : SpanV) : (44 : UInt8) ∉ s.t := by
  unfold SpanV.t
  split
  · exact not_dec (by decide) _
  · intro h
    rw [List.mem_append, List.mem_cons] at h
    rcases h with h | h | h
    · exact not_dec (by decide) _ h
    · exact absurd h (by decide)
    · exact not_dec (by decide) _ h
theorem pieces_join : ∀ (L : List (List UInt8)), L ≠ [] → (∀ x ∈ L, (44 : UInt8) ∉ x) → pieces 44 (joinC L) = L
  | [], h, _ => absurd rfl h
  | [x], _, h => pieces_none (h x (by simp))
  | x :: y :: r, _, h => by
    rw [joinC, pieces_cons _ (h x (by simp)), pieces_join (y :: r) (by simp) (fun z hz => h z (List.mem_cons_of_mem _ hz))]
theorem setT_pieces {F : List SpanV} (h : F ≠ []) : pieces 44 (setT F) = F.map SpanV.t := by
  unfold setT
  rw [if_neg h]
  exact pieces_join _ (by simpa using h) (fun x hx => by
    obtain ⟨s, _, rfl⟩ := List.mem_map.1 hx
    exact t_comma s)
theorem uint32_digits {n : Nat} (h : n < 4294967296) : Lib.parseUintB 32 (Lib.decDigits n) = .ok n := uint_digits (by decide) (by rw [show (2 : Nat) ^ 32 - 1 = 4294967295 from rfl]; omega)
theorem uint32_le {l : List UInt8} {n : Nat} (h : Lib.parseUintB 32 l = .ok n) : n < 4294967296 := by
  have := Lib.parseUintB_le h
  have e : (2 : Nat) ^ 32 - 1 = 4294967295 := by decide
  omega
theorem index_none1 {c : UInt8} : ∀ {l : List UInt8}, c ∉ l → Lib.index l [c] = -1
  | [], _ => by simp [Lib.index]
  | x :: r, h => by
    rw [index_one, if_neg (fun e => h (by simp [e])), index_none1 (fun hm => h (List.mem_cons_of_mem _ hm)), if_pos rfl]
theorem cut_none1 {c : UInt8} {l : List UInt8} (h : c ∉ l) : Lib.cut l [c] = (l, [], false) := by
  unfold Lib.cut
  rw [index_none1 h, if_neg (by omega)]
/-- A word's two numbers. -/
def wordO (w : List UInt8) : Option (Nat × Nat) :=
  match Lib.parseUintB 32 (Lib.cut w [45]).1, Lib.parseUintB 32 (if (Lib.cut w [45]).2.2 then (Lib.cut w [45]).2.1 else (Lib.cut w [45]).1) with
  | .ok a, .ok b => if a ≤ b ∧ ((Lib.cut w [45]).2.2 = true → a ≠ b) then some (a, b) else none
  | _, _ => none
theorem wordO_t {s : SpanV} (h : s.lo ≤ s.hi) : wordO s.t = some (s.lo.toNat, s.hi.toNat) := by
  have := s.hlo
  have := s.hhi
  unfold wordO SpanV.t
  by_cases e : s.lo = s.hi
  · rw [if_pos e, ← e, cut_none1 (not_dec (by decide) _)]
    simp only [Bool.false_eq_true, if_false, uint32_digits (n := s.lo.toNat) (by omega)]
    simp
  · rw [if_neg e, cut_hit1 _ (not_dec (by decide) _)]
    simp only [if_true, uint32_digits (n := s.lo.toNat) (by omega), uint32_digits (n := s.hi.toNat) (by omega)]
    rw [if_pos ⟨by omega, fun _ => by omega⟩]
def SpanV.two (s : SpanV) : Nat × Nat := (s.lo.toNat, s.hi.toNat)
/-- The words' numbers. -/
def readL : List (List UInt8) → Option (List (Nat × Nat))
  | [] => some []
  | w :: r => match wordO w, readL r with
    | some x, some l => some (x :: l)
    | _, _ => none
theorem readL_t : ∀ (F : List SpanV), (∀ s ∈ F, s.lo ≤ s.hi) → readL (F.map SpanV.t) = some (F.map SpanV.two)
  | [], _ => rfl
  | s :: r, h => by
    rw [List.map_cons, readL, wordO_t (h s (by simp)), readL_t r (fun x hx => h x (List.mem_cons_of_mem _ hx))]
    rfl
/-- What is read of the text of a set in its form is that set. -/
theorem read_back {F : List SpanV} (h : F ≠ []) (hn : ∀ s ∈ F, s.lo ≤ s.hi) : readL (pieces 44 (setT F)) = some (F.map SpanV.two) := by
  rw [setT_pieces h, readL_t F hn]
theorem two_inj {s t : SpanV} (h : s.two = t.two) : s = t := by
  have h1 := s.hlo
  have h2 := s.hhi
  have h3 := t.hlo
  have h4 := t.hhi
  unfold SpanV.two at h
  injection h with e1 e2
  exact SpanV.eq (by omega) (by omega)
theorem map_two_inj : ∀ {A B : List SpanV}, A.map SpanV.two = B.map SpanV.two → A = B
  | [], [], _ => rfl
  | [], _ :: _, h => by simp at h
  | _ :: _, [], h => by simp at h
  | a :: A, b :: B, h => by
    rw [List.map_cons, List.map_cons] at h
    injection h with h1 h2
    rw [two_inj h1, map_two_inj h2]
/-- A list that a text was read to, and whose form has that text, is its form. -/
theorem read_form {l F : List SpanV} {s : List UInt8} (hs : s ≠ [45]) (hl : readL (pieces 44 s) = some (l.map SpanV.two)) (hF : ∀ x ∈ F, x.lo ≤ x.hi) (ht : setT F = s) : l = F := by
  have hne : F ≠ [] := fun e => hs (by rw [← ht, e]; rfl)
  have h := read_back hne hF
  rw [ht, hl] at h
  injection h with h
  exact map_two_inj h
/-- A word's two numbers as the document reads them: in their one spelling. -/
def wordD (w : List UInt8) : Option (Nat × Nat) :=
  match readB (Lib.cut w [45]).1 4294967295, readB (if (Lib.cut w [45]).2.2 then (Lib.cut w [45]).2.1 else (Lib.cut w [45]).1) 4294967295 with
  | some a, some b => if a ≤ b ∧ ((Lib.cut w [45]).2.2 = true → a ≠ b) then some (a, b) else none
  | _, _ => none
theorem read_uint {l : List UInt8} {n : Nat} (h : readB l 4294967295 = some n) : Lib.parseUintB 32 l = .ok n := by
  obtain ⟨h1, h2⟩ := readB_some.1 h
  rw [← h1]
  exact uint32_digits (by omega)
theorem wordD_O {w : List UInt8} {x : Nat × Nat} (h : wordD w = some x) : wordO w = some x := by
  unfold wordD at h
  unfold wordO
  split at h
  · rename_i a b h1 h2
    rw [read_uint h1, read_uint h2]
    exact h
  · cases h
theorem wordD_t {s : SpanV} (h : s.lo ≤ s.hi) : wordD s.t = some (s.lo.toNat, s.hi.toNat) := by
  have := s.hlo
  have := s.hhi
  have hr : ∀ n : Nat, n ≤ 4294967295 → readB (Lib.decDigits n) 4294967295 = some n := fun n hn => readB_some.2 ⟨rfl, hn⟩
  unfold wordD SpanV.t
  by_cases e : s.lo = s.hi
  · rw [if_pos e, ← e, cut_none1 (not_dec (by decide) _)]
    simp only [Bool.false_eq_true, if_false, hr s.lo.toNat (by omega)]
    simp
  · rw [if_neg e, cut_hit1 _ (not_dec (by decide) _)]
    simp only [if_true, hr s.lo.toNat (by omega), hr s.hi.toNat (by omega)]
    rw [if_pos ⟨by omega, fun _ => by omega⟩]
theorem wordO_ok {w : List UInt8} {x : Nat × Nat} (h : wordO w = some x) : x.1 ≤ x.2 ∧ x.2 < 4294967296 := by
  unfold wordO at h
  split at h
  · rename_i a b h1 h2
    split at h
    · rename_i hc
      injection h with h
      subst h
      exact ⟨hc.1, uint32_le h2⟩
    · cases h
  · cases h
def spanOf (x : Nat × Nat) (h : x.1 ≤ x.2 ∧ x.2 < 4294967296) : SpanV := ⟨x.1, x.2, by omega, by omega⟩
theorem spanOf_two (x : Nat × Nat) (h : x.1 ≤ x.2 ∧ x.2 < 4294967296) : (spanOf x h).two = x := by
  obtain ⟨a, b⟩ := x
  simp [spanOf, SpanV.two]
theorem readL_spans : ∀ {ws : List (List UInt8)} {l : List (Nat × Nat)}, readL ws = some l → ∃ L : List SpanV, l = L.map SpanV.two ∧ ∀ s ∈ L, s.lo ≤ s.hi
  | [], l, h => by
    injection h with h
    exact ⟨[], h.symm, by simp⟩
  | w :: r, l, h => by
    rw [readL] at h
    split at h
    · rename_i x l' h1 h2
      injection h with h
      subst h
      obtain ⟨L, hL, hk⟩ := readL_spans h2
      have hx := wordO_ok h1
      refine ⟨spanOf x hx :: L, ?_, ?_⟩
      · rw [List.map_cons, spanOf_two, hL]
      · intro s hs
        rcases List.mem_cons.1 hs with rfl | hs
        · show ((x.1 : Nat) : Int) ≤ x.2
          omega
        · exact hk s hs
    · cases h
def readD : List (List UInt8) → Option (List (Nat × Nat))
  | [] => some []
  | w :: r => match wordD w, readD r with
    | some x, some l => some (x :: l)
    | _, _ => none
theorem readD_L : ∀ {ws : List (List UInt8)} {l : List (Nat × Nat)}, readD ws = some l → readL ws = some l
  | [], l, h => h
  | w :: r, l, h => by
    rw [readD] at h
    split at h
    · rename_i x l' h1 h2
      rw [readL, wordD_O h1, readD_L h2]
      exact h
    · cases h
theorem readD_t : ∀ (F : List SpanV), (∀ s ∈ F, s.lo ≤ s.hi) → readD (F.map SpanV.t) = some (F.map SpanV.two)
  | [], _ => rfl
  | s :: r, h => by
    rw [List.map_cons, readD, wordD_t (h s (by simp)), readD_t r (fun x hx => h x (List.mem_cons_of_mem _ hx))]
    rfl
end Go.Proofs.YthgmmajoinkblaaDoor

/-
  What is read of the text of a set, as one function: no program in sight.
-/
namespace Go.Proofs.YthgmmajoinkblaaDoor
open Go Go.RowKit Go.Sort

theorem joinC_join : ∀ (L : List (List UInt8)), joinC L = Lib.join L [44]
  | [] => rfl
  | [x] => (Lib.join_one x [44]).symm
  | x :: y :: r => by
    rw [joinC, joinC_join (y :: r), Lib.join_cons, Lib.join_cons]
    simp [Lib.joinTail]
theorem joinC_snoc : ∀ (L : List (List UInt8)) (x : List UInt8), joinC (L ++ [x]) = if L = [] then x else joinC L ++ 44 :: x
  | [], x => rfl
  | [y], x => by simp [joinC]
  | y :: z :: r, x => by
    have h := joinC_snoc (z :: r) x
    rw [if_neg (by simp)] at h ⊢
    rw [List.cons_append, List.cons_append, joinC, ← List.cons_append, h]
    simp [joinC]
/-- The span of two numbers. -/
def spOf (x : Nat × Nat) : SpanV := if h : x.1 ≤ x.2 ∧ x.2 < 4294967296 then spanOf x h else default
theorem spOf_ok {x : Nat × Nat} (h : x.1 ≤ x.2 ∧ x.2 < 4294967296) : (spOf x).two = x ∧ (spOf x).lo = x.1 ∧ (spOf x).hi = x.2 := by
  unfold spOf
  rw [dif_pos h]
  exact ⟨spanOf_two x h, rfl, rfl⟩
theorem spOf_two {s : SpanV} (h : s.lo ≤ s.hi) : spOf s.two = s := by
  have h1 := s.hlo
  have h2 := s.hhi
  have h3 : s.two.1 ≤ s.two.2 ∧ s.two.2 < 4294967296 := by unfold SpanV.two; dsimp only; omega
  exact two_inj (spOf_ok h3).1
theorem spOf_map {L : List SpanV} (h : ∀ s ∈ L, s.lo ≤ s.hi) : (L.map SpanV.two).map spOf = L := by
  induction L with
  | nil => rfl
  | cons s r ih =>
    rw [List.map_cons, List.map_cons, spOf_two (h s (by simp)), ih (fun x hx => h x (List.mem_cons_of_mem _ hx))]
/-- What is read of a text. -/
noncomputable def setP (s : List UInt8) : Option (List SpanV) :=
  if s = [45] then some [] else match readL (pieces 44 s) with
    | some l => if setT (formOf (l.map spOf)) = s then some (l.map spOf) else none
    | none => none
noncomputable def setL (s : List UInt8) : List SpanV := (setP s).getD []
noncomputable def setE (s : List UInt8) : Int := if (setP s).isSome then 0 else 4
theorem set_none {s : List UInt8} (h : setP s = none) : setL s = [] ∧ setE s = 4 := by unfold setL setE; rw [h]; exact ⟨rfl, rfl⟩
theorem set_some {s : List UInt8} {L : List SpanV} (h : setP s = some L) : setL s = L ∧ setE s = 0 := by unfold setL setE; rw [h]; exact ⟨rfl, rfl⟩
theorem setP_dash : setP [45] = some [] := by unfold setP; rw [if_pos rfl]
theorem setP_bad {s : List UInt8} (hs : s ≠ [45]) (h : readL (pieces 44 s) = none) : setP s = none := by unfold setP; rw [if_neg hs, h]
theorem setP_ne {s : List UInt8} {L : List SpanV} (hs : s ≠ [45]) (h : readL (pieces 44 s) = some (L.map SpanV.two)) (hL : ∀ x ∈ L, x.lo ≤ x.hi) (ht : setT (formOf L) ≠ s) : setP s = none := by
  unfold setP
  rw [if_neg hs, h]
  dsimp only
  rw [spOf_map hL, if_neg ht]
theorem setP_yes {s : List UInt8} {L : List SpanV} (hs : s ≠ [45]) (h : readL (pieces 44 s) = some (L.map SpanV.two)) (hL : ∀ x ∈ L, x.lo ≤ x.hi) (ht : setT (formOf L) = s) : setP s = some L := by
  unfold setP
  rw [if_neg hs, h]
  dsimp only
  rw [spOf_map hL, if_pos ht]
theorem formOf_NF (L : List SpanV) : NF (formOf L) := (formOf_ok L).1
theorem formOf_nil : formOf [] = [] := theSet_eq trivial (fun _ => rfl)
/-- A list that was read is in its form, and the text is its. -/
theorem setP_form {s : List UInt8} {L : List SpanV} (h : setP s = some L) : formOf L = L ∧ setT L = s := by
  unfold setP at h
  split at h
  · rename_i hs
    injection h with h
    subst h
    exact ⟨formOf_nil, by rw [hs]; rfl⟩
  · rename_i hs
    split at h
    · rename_i l hl
      split at h
      · rename_i ht
        injection h with h
        obtain ⟨M, hM, hk⟩ := readL_spans hl
        have e : l.map spOf = M := by rw [hM, spOf_map hk]
        rw [e] at ht h
        subst h
        rw [hM] at hl
        have := read_form hs hl (fun x hx => (formOf_NF M).ok x hx) ht
        exact ⟨this.symm, by rw [← this] at ht; exact ht⟩
      · cases h
    · cases h
theorem setT_ne {F : List SpanV} (h : F ≠ []) (hF : ∀ x ∈ F, x.lo ≤ x.hi) : setT F ≠ [45] := by
  intro e
  have h1 := setT_pieces h
  rw [e] at h1
  obtain ⟨s, r, rfl⟩ := List.exists_cons_of_ne_nil h
  rw [pieces_none (by decide), List.map_cons] at h1
  injection h1 with h1 _
  have h2 := wordO_t (hF s (by simp))
  rw [← h1] at h2
  have h3 : wordO [45] = none := by decide
  rw [h3] at h2
  cases h2
/-- The text of a set in its form is read to it. -/
theorem setP_text {F : List SpanV} (hn : NF F) (hf : formOf F = F) : setP (setT F) = some F := by
  by_cases h : F = []
  · subst h; exact setP_dash
  · exact setP_yes (setT_ne h hn.ok) (read_back h hn.ok) hn.ok (by rw [hf])
/-- What the document's words refuse, the program refuses. -/
theorem setP_badD {s : List UInt8} (hs : s ≠ [45]) (h : readD (pieces 44 s) = none) : setP s = none := by
  cases e : setP s with
  | none => rfl
  | some L =>
    obtain ⟨h1, h2⟩ := setP_form e
    have hn : NF L := by rw [← h1]; exact formOf_NF L
    have hne : L ≠ [] := fun e => hs (by rw [← h2, e]; rfl)
    rw [← h2, setT_pieces hne, readD_t L hn.ok] at h
    cases h
theorem setL_NF (s : List UInt8) : formOf (setL s) = setL s := by
  cases e : setP s with
  | none => rw [(set_none e).1]; exact formOf_nil
  | some L => rw [(set_some e).1]; exact (setP_form e).1
/-- How far the words have been read. -/
def RInv (rd : List (List UInt8) → Option (List (Nat × Nat))) (ws rest : List (List UInt8)) (L : List SpanV) : Prop := rd ws = (rd rest).map fun r => L.map SpanV.two ++ r
theorem rinv_start (rd) (ws : List (List UInt8)) : RInv rd ws ws [] := by
  unfold RInv
  cases rd ws <;> simp
theorem rinvL_bad {ws r : List (List UInt8)} {w : List UInt8} {L : List SpanV} (h : RInv readL ws (w :: r) L) (hw : wordO w = none) : readL ws = none := by
  unfold RInv at h
  rw [h, readL, hw]
  rfl
theorem rinvL_next {ws r : List (List UInt8)} {w : List UInt8} {L : List SpanV} {x : Nat × Nat} (h : RInv readL ws (w :: r) L) (hw : wordO w = some x) : RInv readL ws r (L ++ [spOf x]) := by
  unfold RInv at *
  rw [h, readL, hw]
  have hx := (spOf_ok (wordO_ok hw)).1
  cases readL r with
  | none => rfl
  | some l => simp [hx]
theorem rinvD_bad {ws r : List (List UInt8)} {w : List UInt8} {L : List SpanV} (h : RInv readD ws (w :: r) L) (hw : wordD w = none) : readD ws = none := by
  unfold RInv at h
  rw [h, readD, hw]
  rfl
theorem rinvD_next {ws r : List (List UInt8)} {w : List UInt8} {L : List SpanV} {x : Nat × Nat} (h : RInv readD ws (w :: r) L) (hw : wordD w = some x) : RInv readD ws r (L ++ [spOf x]) := by
  unfold RInv at *
  rw [h, readD, hw]
  have hx := (spOf_ok (wordO_ok (wordD_O hw))).1
  cases readD r with
  | none => rfl
  | some l => simp [hx]
theorem rinvL_end {ws : List (List UInt8)} {L : List SpanV} (h : RInv readL ws [] L) : readL ws = some (L.map SpanV.two) := by
  unfold RInv at h
  rw [h]
  simp [readL]
theorem rinvD_end {ws : List (List UInt8)} {L : List SpanV} (h : RInv readD ws [] L) : readD ws = some (L.map SpanV.two) := by
  unfold RInv at h
  rw [h]
  simp [readD]
theorem read_ok {ws : List (List UInt8)} {L : List SpanV} (h : readL ws = some (L.map SpanV.two)) : ∀ s ∈ L, s.lo ≤ s.hi := by
  obtain ⟨M, hM, hk⟩ := readL_spans h
  rw [map_two_inj hM]
  exact hk
/-- A span's text as the program puts it together. -/
def tB (s : SpanV) : ByteArray := ⟨s.t.toArray⟩
theorem dec32 {n : Nat} (h : n < 4294967296) : (Lib.decDigits n).length ≤ 10 := by
  have : ∀ k n : Nat, n < 10 ^ (k + 1) → (Lib.decDigits n).length ≤ k + 1 := by
    intro k
    induction k with
    | zero => intro n h; rw [decDigits_small (by simpa using h)]; simp
    | succ k ih =>
      intro n h
      by_cases h9 : n < 10
      · rw [decDigits_small h9]; simp
      · rw [decDigits_big h9, List.length_append]
        have := ih (n / 10) (by rw [Nat.pow_succ] at h; omega)
        simp; omega
  exact this 9 n (Nat.lt_of_lt_of_le h (by decide))
theorem t_len (s : SpanV) : s.t.length ≤ 21 := by
  have := s.hlo
  have := s.hhi
  have h1 := dec32 (n := s.lo.toNat) (by omega)
  have h2 := dec32 (n := s.hi.toNat) (by omega)
  unfold SpanV.t
  split
  · omega
  · simp; omega
theorem t_ne (s : SpanV) : s.t ≠ [] := by
  unfold SpanV.t
  split
  · exact decDigits_ne_nil _
  · simp
theorem joinC_len : ∀ (F : List SpanV), (joinC (F.map SpanV.t)).length ≤ 22 * F.length
  | [] => by simp [joinC]
  | [s] => by have := t_len s; simp [joinC]; omega
  | s :: u :: r => by
    have h1 := t_len s
    have h2 := joinC_len (u :: r)
    simp only [List.map_cons, joinC, List.length_append, List.length_cons] at *
    omega
theorem setT_cons {F : List SpanV} (h : F ≠ []) : setT F = joinC (F.map SpanV.t) := by unfold setT; rw [if_neg h]
theorem joinC_ne {F : List SpanV} (h : F ≠ []) : joinC (F.map SpanV.t) ≠ [] := by
  match F, h with
  | [s], _ => exact t_ne s
  | s :: u :: r, _ => simp [joinC]
theorem setT_len (F : List SpanV) : (setT F).length ≤ 22 * F.length + 1 := by
  by_cases h : F = []
  · subst h; decide
  · rw [setT_cons h]; have := joinC_len F; omega
end Go.Proofs.YthgmmajoinkblaaDoor

/-
  strconv.FormatUint at base 10: the number's decimal digits.
-/
namespace Go.Proofs.YthgmmajoinkblaaDoor
open Go Go.RowKit Go.Lib Go.Sort

set_option maxRecDepth 100000 in
set_option maxHeartbeats 4000000 in
theorem fmtInner_any (u : Nat) (hu64 : u < 18446744073709551616) (w : World) (htab : Lib.TabIs Tryd.prog w "internal/strconv.uint64pow10" .u64 Lib.pow10Tab) :
    Calls Tryd.prog 20 #[.int .u64 u, .int .i64 10] w fun e w' => e = .returned (.string ⟨(Lib.decDigits u).toArray⟩) ∧ ∃ k os, w' = grow (w.drewN k) os := by
  by_cases hs : u < 100
  · have hsm := Tryd.internal_strconv_small u hs w
    have hI : (u : Int) < 100 := by omega
    go_enter Tryd.func20, Tryd.ntmps20
    go_wp2_with fail
    refine hsm.mono ?_
    rintro e w' ⟨rfl, rfl⟩
    go_wp2
    go_ret
    exact ⟨rfl, 0, #[], by simp [World.drewN_zero]⟩
  · have hI : ¬ (u : Int) < 100 := by omega
    have hu1 : 1 ≤ u := by omega
    have hnd20 : Lib.nDigits u ≤ 20 := by have := Lib.numDigits_eq u hu1 hu64; split at this <;> omega
    have hal : Tryd.prog.arrayLen 75 = 24 := by kernel_rfl
    have hsl : ∀ W, (Instr.sliceAt 75 (.pointer (some ⟨w.heap.size, 0, none⟩)) none (some (.int .i64 (Lib.nDigits u : Int))) none).run Tryd.prog W = .ok (.slice (some ⟨w.heap.size, 0, none⟩) (Lib.nDigits u) 24) W := fun W => by
      rw [run_sliceAt_array_h W 75 ⟨w.heap.size, 0, none⟩ (by kernel_rfl) .i64 (Lib.nDigits u : Int) (by omega) (by rw [hal]; omega)]
      go_simp
    have hH0 := Lib.holds_zero0 w 75 (Lib.nDigits u) (by omega)
    have hfmt := Tryd.internal_strconv_formatBase10 w.heap.size 0 24 u (Array.replicate (Lib.nDigits u) 0) (w.alloc (.cells Lib.zeros24 75)) hH0 (by rw [Array.size_replicate]; exact Lib.lt_pow_nDigits u) hu64 (by rw [Array.size_replicate]; omega)
    rw [Array.size_replicate] at hfmt
    have HH0 := Lib.hid hH0
    have hnum := Tryd.internal_strconv_numDigits u hu1 hu64 (w.alloc (.cells Lib.zeros24 75)) (Lib.tabIs_alloc htab _)
    clear hH0 hal
    go_enter Tryd.func20, Tryd.ntmps20
    go_wp2_with fail
    refine hnum.mono ?_
    rintro e w' ⟨rfl, rfl⟩
    go_wp2_with fail
    refine hfmt.mono ?_
    rintro e w' ⟨rfl, k, v', dk, rfl, hF⟩
    have hcv : (convert 51 9 (.slice (some ⟨w.heap.size, 0, none⟩) (Lib.nDigits u) 24)).run Tryd.prog ((putRow (fun (b : UInt8) => Value.int .u8 (b.toNat : Int)) (w.alloc (.cells Lib.zeros24 75)) w.heap.size 0 dk).drewN k) = .ok (.string ⟨(Lib.decDigits u).toArray⟩) ((putRow (fun (b : UInt8) => Value.int .u8 (b.toNat : Int)) (w.alloc (.cells Lib.zeros24 75)) w.heap.size 0 dk).drewN k) := by
      have h := run_convert_bytes_back (P := Tryd.prog) ((putRow (fun (b : UInt8) => Value.int .u8 (b.toNat : Int)) (w.alloc (.cells Lib.zeros24 75)) w.heap.size 0 dk).drewN k) 51 9 5 ⟨w.heap.size, 0, none⟩ 24 (Lib.decDigits u) Tryd.underlying51 Tryd.underlying5 Tryd.underlying9 (fun j hj => by
        rw [Lib.row_is_numeral hF j hj, Lib.add_plain, World.cell?_drewN]
        exact cell?_putRow (fun (b : UInt8) => Value.int .u8 (b.toNat : Int)) _ w.heap.size 0 _ dk HH0.out (by rw [hF.size, Array.size_replicate]) j (by rw [hF.size]; rw [Lib.decDigits_length] at hj; exact hj))
      rw [Lib.decDigits_length] at h
      exact h
    go_wp2
    go_ret
    obtain ⟨os, eo⟩ := Lib.fin_at w (.cells Lib.zeros24 75) dk k 0
    exact ⟨rfl, k, os, eo⟩
set_option maxRecDepth 100000 in
set_option maxHeartbeats 1000000 in
theorem fmtUint_any (u : Nat) (hu64 : u < 18446744073709551616) (w : World) (hE : EnvT w) :
    Calls Tryd.prog 12 #[.int .u64 u, .int .i64 10] w fun e w' => e = .returned (.string ⟨(Lib.decDigits u).toArray⟩) ∧ Below w.heap.size w w' := by
  go_enter Tryd.func12, Tryd.ntmps12
  go_wp2_with fail
  refine (fmtInner_any u hu64 w hE.tab).mono ?_
  rintro e w' ⟨rfl, h⟩
  go_wp2
  go_ret
  exact ⟨rfl, below_of_grow h⟩
end Go.Proofs.YthgmmajoinkblaaDoor

/-
  The walk of spans.And.
-/
namespace Go.Proofs.YthgmmajoinkblaaDoor
open Go Go.RowKit Go.Lib Go.Sort

theorem meet1_yes {s t : SpanV} (h : max s.lo t.lo ≤ min s.hi t.hi) : ∃ x : SpanV, meet1 s t = [x] ∧ x.lo = max s.lo t.lo ∧ x.hi = min s.hi t.hi := by
  unfold meet1
  rw [if_pos h]
  exact ⟨_, rfl, rfl, rfl⟩
theorem meet1_no {s t : SpanV} (h : ¬ max s.lo t.lo ≤ min s.hi t.hi) : meet1 s t = [] := by
  unfold meet1
  rw [if_neg h]

end Go.Proofs.YthgmmajoinkblaaDoor

/-
  The walks of spans.Not and spans.Less.
-/
namespace Go.Proofs.YthgmmajoinkblaaDoor
open Go Go.RowKit Go.Lib Go.Sort

set_option maxRecDepth 100000 in
set_option maxHeartbeats 4000000 in
theorem not_any (L : List SpanV) (vl : Value) (most : Int) (w : World) (hl : Rd w w.heap.size 2 vl L.length (scells L)) (hlen : L.length ≤ 1099511627776) (hm : 0 ≤ most ∧ most < 4294967296) :
    Calls Tryd.prog 6 #[vl, .int .u32 most] w (SetRes (theSet (notP most L)) w) := by
  obtain ⟨i0, hi, hz0, hz1, hz2⟩ := info_parts Tryd.infoSpan
  have hF := formOf_ok L
  have hFl := formOf_len L
  have hE := Lib.hid (theSet_not hm L)
  generalize hFF : formOf L = F at *
  have HFF := Lib.hid hFF
  clear hFF
  go_enter Tryd.func6, Tryd.ntmps6
  go_wp2_with fail
  refine (form_any L vl w hl hlen).mono ?_
  rintro e w1 ⟨v1, rfl, hown1, hb1⟩
  rw [HFF.out] at hown1
  have rd1 := Rd.of_own hown1
  obtain ⟨A1, c1, rfl, hc1⟩ := rd1.form
  have HR := Lib.hid rd1
  clear rd1 hown1
  go_wp2_with fail
  go_loopw [5, 6, 12] (fun v at' i wr => ∃ j : Nat, i = .int .i64 j ∧ j ≤ F.length ∧ at' = .int .u64 (natAt (F.take j)) ∧ wr.ownsRow w1.heap.size 24 2 v (notTo most F j).length (scells (notTo most F j)) ∧ Below w1.heap.size w1 wr) (fun _ _ i _ => F.length - (intOf i).toNat)
  case atStart => exact ⟨0, rfl, by omega, rfl, World.ownsRow_nil _ _ _ _, Below.refl _ _⟩
  case round =>
    obtain ⟨j, rfl, hj, rfl, hown, hnx⟩ := hrel
    have hat := natAt_range (F := F.take j)
    have hnl := notTo_len most F j
    have hsz := hnx.size
    have hsz1 := hb1.size
    by_cases hlt : j < F.length
    · have hI : (j : Int) < (F.length : Int) := by omega
      obtain ⟨s, hs⟩ : ∃ s, F[j]? = some s := ⟨_, List.getElem?_eq_getElem hlt⟩
      obtain ⟨b, off, c', hv, _, hbB, hcell⟩ := (HR.out.below hnx).posAt (by omega)
      injection hv with hv1 _ hv3
      subst hv1 hv3
      have f0 : wr.cell? ⟨b, off + j * 2, none⟩ = some (.int .u32 s.lo) := hcell j 0 _ (scell hs rfl)
      have f1 : wr.cell? ⟨b, off + j * 2 + 1, none⟩ = some (.int .u32 s.hi) := hcell j 1 _ (scell hs rfl)
      have hlo := s.hlo
      have hhi := s.hhi
      clear hcell
      have hstep := notTo_succ (most := most) hs
      have hstep2 := natAt_succ hs
      have hal := hF.1.at_le hs
      have hsv := hF.1.ok s (List.mem_of_getElem? hs)
      have HS1 := Lib.hid hstep
      have HS2 := Lib.hid hstep2
      clear hstep hstep2 hs
      generalize natAt (F.take j) = at0 at *
      generalize notTo most F j = O at *
      by_cases hg1 : at0 < s.lo
      · by_cases hg2 : at0 ≤ most
        · have hgap : ∃ x, gapOf at0 most s = [x] ∧ x.enc = [.int .u32 at0, .int .u32 (min (s.lo - 1) most)] := by
            unfold gapOf
            rw [dif_pos ⟨hat.1, hg1, hg2, hm.2⟩]
            exact ⟨_, rfl, rfl⟩
          have HGAP := Lib.hid hgap
          clear hgap
          have w1e : at0 % 4294967296 = at0 := by omega
          have w2e : (s.lo - 1) % 4294967296 = s.lo - 1 := by omega
          have hoff : ∀ g, u5.ownBlock = some g → g < wr.heap.size := fun g hg => (hown.lt g hg).2
          go_wp2_with (at_builtin; refine wpList_push2 (v := u5) rfl _ _ 25 rfl 24 i0 _ 2 8 Tryd.underlying25 hi hz0 hz1 hz2 rfl (by decide) (by decide) [.int .u32 at0, .int .u32 (min (s.lo - 1) most)] rfl rfl (by simp) (hown.alloc (.cells #[.int .u32 s.lo, .int .u32 s.hi] 24)) rfl (enc_one ⟨at0, min (s.lo - 1) most, by omega, by omega⟩) (by omega) (by simp; omega) ?_; intro v2 w2 hown2 hgr _; have kb2 : w2.heap[wr.heap.size]? = some (.cells #[.int .u32 s.lo, .int .u32 s.hi] 24 (0, 0)) := (hgr.block wr.heap.size (by simp) (fun hh => by have := hoff _ hh.symm; omega)).trans (blk1 wr _); obtain ⟨y0, y1, _, _⟩ := two_cells kb2)
          have hb2 := below_row (hnx.alloc hsz (.cells #[.int .u32 s.lo, .int .u32 s.hi] 24)) (hown.alloc (.cells #[.int .u32 s.lo, .int .u32 s.hi] 24)) hgr (by simp; omega) (Nat.le_refl _)
          refine ⟨⟨j + 1, by go_num, by omega, by rw [HS2.out], ?_, hb2⟩, by simp only [intOf]; omega⟩
          obtain ⟨x, hx, hxe⟩ := HGAP.out
          rw [HS1.out, hx, scells_snoc, List.length_append, hxe]
          exact hown2
        · have HGAP : Hid (gapOf at0 most s = []) := by
            show gapOf at0 most s = []
            unfold gapOf
            rw [dif_neg (by omega)]
          go_wp2
          refine ⟨⟨j + 1, by go_num, by omega, by rw [HS2.out], by rw [HS1.out, HGAP.out, List.append_nil]; exact hown.alloc _, hnx.alloc hsz _⟩, by simp only [intOf]; omega⟩
      · have HGAP : Hid (gapOf at0 most s = []) := by
          show gapOf at0 most s = []
          unfold gapOf
          rw [dif_neg (by omega)]
        go_wp2
        refine ⟨⟨j + 1, by go_num, by omega, by rw [HS2.out], by rw [HS1.out, HGAP.out, List.append_nil]; exact hown.alloc _, hnx.alloc hsz _⟩, by simp only [intOf]; omega⟩
    · obtain rfl : j = F.length := by omega
      rw [List.take_length] at hat ⊢
      have hall : notAll most F = notTo most F F.length ++ lastOf (natAt F) most := rfl
      have HALL := Lib.hid hall
      clear hall
      generalize notTo most F F.length = O at *
      generalize natAt F = at0 at *
      have hbw : Below w.heap.size w wr := hb1.trans (hnx.mono hsz1)
      by_cases hg2 : at0 ≤ most
      · have hgap : ∃ x, lastOf at0 most = [x] ∧ x.enc = [.int .u32 at0, .int .u32 most] := by
          unfold lastOf
          rw [dif_pos ⟨hat.1, hg2, hm.2⟩]
          exact ⟨_, rfl, rfl⟩
        have HGAP := Lib.hid hgap
        clear hgap
        have w1e : at0 % 4294967296 = at0 := by omega
        go_wp2_with (at_builtin; refine wpList_push rfl _ _ 25 rfl 24 i0 _ 2 8 Tryd.underlying25 hi hz0 hz1 hz2 rfl (by decide) (by decide) [.int .u32 at0, .int .u32 most] rfl rfl (by simp) hown rfl (enc_one ⟨at0, most, by omega, by omega⟩) (by omega) (by omega) (Below.refl w1.heap.size wr) (Nat.le_refl _) ?_; intro v2 w2 hown2 hb2)
        go_ret
        obtain ⟨x, hx, hxe⟩ := HGAP.out
        unfold SetRes
        rw [hE.out, HALL.out, hx, scells_snoc, List.length_append, hxe]
        exact ⟨_, rfl, owns_base hown2 hsz1, hbw.trans (hb2.mono hsz1)⟩
      · have HGAP : Hid (lastOf at0 most = []) := by
          show lastOf at0 most = []
          unfold lastOf
          rw [dif_neg (by omega)]
        go_wp2
        go_ret
        unfold SetRes
        rw [hE.out, HALL.out, HGAP.out, List.append_nil]
        exact ⟨_, rfl, owns_base hown hsz1, hbw⟩

theorem lessP (L M : List SpanV) : theSet (fun x => hasB L x && hasB (theSet (notP 4294967295 M)) x) = theSet (fun x => hasB L x && !hasB M x) := by
  congr 1
  funext x
  have h := (notAll_ok (formOf_ok M).1 (most := 4294967295) (by omega)).2 x
  rw [theSet_not (by omega), h, notP_form]
  unfold notP
  cases hx : hasB L x with
  | false => rfl
  | true =>
    obtain ⟨s, _, h1, h2⟩ := hasB_iff.1 hx
    have := s.hlo
    have := s.hhi
    have e1 : 0 ≤ x := by omega
    have e2 : x ≤ 4294967295 := by omega
    simp [e1, e2]
theorem not_len {most : Int} (hm : 0 ≤ most ∧ most < 4294967296) (L : List SpanV) : (theSet (notP most L)).length ≤ L.length + 1 := by
  rw [theSet_not hm]
  unfold notAll
  have h1 := notTo_len most (formOf L) (formOf L).length
  have h2 := formOf_len L
  have h3 : (lastOf (natAt (formOf L)) most).length ≤ 1 := by unfold lastOf; split <;> simp
  rw [List.length_append]; omega

end Go.Proofs.YthgmmajoinkblaaDoor

/-
  The text of a header: plain laws; no walk.
-/
import Derived.Test.YtdlhpiknifcehaaDoorHdMath
import Derived.Test.YtdlhpiknifcehaaDoorBackMath
import Derived.Lib.ParseIntBCases
namespace Go.Proofs.YtdlhpiknifcehaaDoor
open Go Go.RowKit Go.Sort

theorem parseUintM_digits (M : Nat) (hM : M ≤ 18446744073709551615) : ∀ (l : List UInt8) (acc : Nat), l.all isDig = true → valD acc l ≤ M → Lib.parseUintM M acc l = .ok (valD acc l)
  | [], acc, _, _ => rfl
  | c :: r, acc, h, hv => by
    simp only [List.all_cons, Bool.and_eq_true] at h
    have hc := h.1
    unfold isDig at hc
    simp at hc
    have e : valD acc (c :: r) = valD (10 * acc + (c.toNat - 48)) r := rfl
    have hg := valD_ge r (10 * acc + (c.toNat - 48))
    rw [e] at hv
    unfold Lib.parseUintM
    rw [if_pos (by omega), if_neg (by omega), if_neg (by omega), e, show acc * 10 + (c.toNat - 48) = 10 * acc + (c.toNat - 48) by omega]
    exact parseUintM_digits M hM r _ h.2 hv
theorem uint_digits {B n : Nat} (hB : 2 ^ B - 1 ≤ 18446744073709551615) (hn : n ≤ 2 ^ B - 1) : Lib.parseUintB B (Lib.decDigits n) = .ok n := by
  unfold Lib.parseUintB
  rw [if_neg (decDigits_ne_nil n), parseUintM_digits _ hB _ _ (decDigits_all n) (by rw [decDigits_val]; exact hn), decDigits_val]
theorem uint16_digits {n : Nat} (h : n < 65536) : Lib.parseUintB 16 (Lib.decDigits n) = .ok n := uint_digits (by decide) (by rw [show (2 : Nat) ^ 16 - 1 = 65535 from rfl]; omega)
theorem uint8_digits {n : Nat} (h : n < 256) : Lib.parseUintB 8 (Lib.decDigits n) = .ok n := uint_digits (by decide) (by rw [show (2 : Nat) ^ 8 - 1 = 255 from rfl]; omega)
theorem uint16_le {l : List UInt8} {n : Nat} (h : Lib.parseUintB 16 l = .ok n) : n < 65536 := by
  have := Lib.parseUintB_le h
  have e : (2 : Nat) ^ 16 - 1 = 65535 := by decide
  omega
theorem uint8_le {l : List UInt8} {n : Nat} (h : Lib.parseUintB 8 l = .ok n) : n < 256 := by
  have := Lib.parseUintB_le h
  have e : (2 : Nat) ^ 8 - 1 = 255 := by decide
  omega
/-- An address and a port. -/
def endL (a p : Nat) : List UInt8 := (textA a).data.toList ++ 58 :: Lib.decDigits p
/-- A header's text. -/
def Hd.textL (h : Hd) : List UInt8 := endL h.src.toNat h.sp.toNat ++ 32 :: (endL h.dst.toNat h.dp.toNat ++ 32 :: Lib.decDigits h.proto.toNat)
def Hd.text (h : Hd) : ByteArray := ⟨h.textL.toArray⟩
theorem text_list (h : Hd) : h.text.data.toList = h.textL := rfl
theorem not_text {c : UInt8} (hc : isDig c = false) (h46 : c ≠ 46) (a : Nat) : c ∉ (textA a).data.toList := by
  show c ∉ Lib.join [Lib.decDigits (octet a 0), Lib.decDigits (octet a 1), Lib.decDigits (octet a 2), Lib.decDigits (octet a 3)] [46]
  rw [join_four]
  intro h
  simp only [List.mem_append, List.mem_cons] at h
  have hd := fun n => not_dig (decDigits_all n) hc
  rcases h with h | h | h | h | h | h | h
  · exact hd _ h
  · exact h46 h
  · exact hd _ h
  · exact h46 h
  · exact hd _ h
  · exact h46 h
  · exact hd _ h
theorem not_dec {c : UInt8} (hc : isDig c = false) (n : Nat) : c ∉ Lib.decDigits n := not_dig (decDigits_all n) hc
theorem not_end (a p : Nat) : (32 : UInt8) ∉ endL a p := by
  intro h
  unfold endL at h
  rw [List.mem_append, List.mem_cons] at h
  rcases h with h | h | h
  · exact not_text (by decide) (by decide) a h
  · exact absurd h (by decide)
  · exact not_dec (by decide) p h
theorem text_pieces (h : Hd) : pieces 32 h.textL = [endL h.src.toNat h.sp.toNat, endL h.dst.toNat h.dp.toNat, Lib.decDigits h.proto.toNat] := by
  unfold Hd.textL
  rw [pieces_cons _ (not_end _ _), pieces_cons _ (not_end _ _), pieces_none (not_dec (by decide) _)]
theorem end_cut (a p : Nat) : Lib.cut (endL a p) [58] = ((textA a).data.toList, Lib.decDigits p, true) := cut_hit1 _ (not_text (by decide) (by decide) a)
/-- An address and a port of a text. -/
def endO (l : List UInt8) : Option (Nat × Nat) :=
  match parseB (Lib.cut l [58]).1, Lib.parseUintB 16 (Lib.cut l [58]).2.1 with
  | some a, .ok p => some (a, p)
  | _, _ => none
/-- The header that a text is the text of. -/
def hpO (l : List UInt8) : Option Hd :=
  match pieces 32 l with
  | [p, q, r] =>
    match endO p, endO q, Lib.parseUintB 8 r with
    | some (a, m), some (b, n), .ok k => if (⟨a, b, k, m, n⟩ : Hd).textL = l then some ⟨a, b, k, m, n⟩ else none
    | _, _, _ => none
  | _ => none
theorem endO_end {a p : Nat} (ha : a < 4294967296) (hp : p < 65536) : endO (endL a p) = some (a, p) := by
  unfold endO
  rw [end_cut, parse_text a ha, uint16_digits hp]
theorem hpO_text {h : Hd} (ho : h.ok) : hpO h.textL = some h := by
  obtain ⟨s0, s1, d0, d1, p0, p1, a0, a1, b0, b1⟩ := ho
  unfold hpO
  rw [text_pieces]
  simp only [endO_end (a := h.src.toNat) (p := h.sp.toNat) (by omega) (by omega), endO_end (a := h.dst.toNat) (p := h.dp.toNat) (by omega) (by omega), uint8_digits (n := h.proto.toNat) (by omega)]
  have e : (⟨(h.src.toNat : Int), (h.dst.toNat : Int), (h.proto.toNat : Int), (h.sp.toNat : Int), (h.dp.toNat : Int)⟩ : Hd) = h := by
    apply hd_ext <;> simp only <;> omega
  rw [e, if_pos rfl]
theorem endO_lt {l : List UInt8} {a p : Nat} (h : endO l = some (a, p)) : a < 4294967296 ∧ p < 65536 := by
  unfold endO at h
  split at h
  · rename_i h1 h2
    injection h with h; injection h with h3 h4
    subst h3 h4
    exact ⟨parseB_lt h1, uint16_le h2⟩
  · cases h
theorem hpO_some {l : List UInt8} {h : Hd} (e : hpO l = some h) : h.ok ∧ h.textL = l := by
  unfold hpO at e
  split at e
  · split at e
    · rename_i a m b n k h1 h2 h3
      split at e
      · rename_i ht
        injection e with e
        subst e
        have l1 := endO_lt h1
        have l2 := endO_lt h2
        have l3 := uint8_le h3
        exact ⟨⟨by simp only; omega, by simp only; omega, by simp only; omega, by simp only; omega, by simp only; omega, by simp only; omega, by simp only; omega, by simp only; omega, by simp only; omega, by simp only; omega⟩, ht⟩
      · cases e
    · cases e
  · cases e
/-- What Parse answers. -/
def hpV (l : List UInt8) : Hd := (hpO l).getD ⟨0, 0, 0, 0, 0⟩
def hpE (l : List UInt8) : Int := match hpO l with | some _ => 0 | none => 4
theorem hp_none {l : List UInt8} (h : hpO l = none) : hpV l = ⟨0, 0, 0, 0, 0⟩ ∧ hpE l = 4 := by unfold hpV hpE; rw [h]; exact ⟨rfl, rfl⟩
theorem hp_some {l : List UInt8} {x : Hd} (h : hpO l = some x) : hpV l = x ∧ hpE l = 0 := by unfold hpV hpE; rw [h]; exact ⟨rfl, rfl⟩
end Go.Proofs.YtdlhpiknifcehaaDoor

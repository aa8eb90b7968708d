/-
  Joined texts: HdText, At3, FtText, Fu, SpMath2, SpText.
-/
import Derived.Test.YtlhafehhkjjchaaGreatDoorMRoutesOrder14
import Derived.Lib.ParseIntBCases
import Derived.Deep.DeepCutAuto
import Derived.Test.YtlhafehhkjjchaaGreatDoorMRoutesOrder11
import Derived.Test.YtlhafehhkjjchaaGreatDoorMRoutesOrder1
import Derived.Lib.ItoaMem
import Derived.Lib.AppendIntMem
import Derived.Lib.Walk
import Derived.BigCall
import Derived.BigGuard
import Derived.Test.YtlhafehhkjjchaaGreatDoorMRoutesOrder3
/-
  The text of a header: plain laws; no walk.
-/
namespace Go.Proofs.YtlhafehhkjjchaaGreatDoor
open Go Go.RowKit Go.Sort

theorem parseUintM_digits (M : Nat) (hM : M ≤ 18446744073709551615) : ∀ (l : List UInt8) (acc : Nat), l.all isDig = true → valD acc l ≤ M → Lib.parseUintM M acc l = .ok (valD acc l)
  | [], acc, _, _ => rfl
  | c :: r, acc, h, hv => by
    simp only [List.all_cons, Bool.and_eq_true] at h
    have hc := h.1
    unfold isDig at hc
    simp at hc
    have e : valD acc (c :: r) = valD (10 * acc + (c.toNat - 48)) r := rfl
    have hg := valD_ge r (10 * acc + (c.toNat - 48))
    rw [e] at hv
    unfold Lib.parseUintM
    rw [if_pos (by omega), if_neg (by omega), if_neg (by omega), e, show acc * 10 + (c.toNat - 48) = 10 * acc + (c.toNat - 48) by omega]
    exact parseUintM_digits M hM r _ h.2 hv
theorem uint_digits {B n : Nat} (hB : 2 ^ B - 1 ≤ 18446744073709551615) (hn : n ≤ 2 ^ B - 1) : Lib.parseUintB B (Lib.decDigits n) = .ok n := by
  unfold Lib.parseUintB
  rw [if_neg (decDigits_ne_nil n), parseUintM_digits _ hB _ _ (decDigits_all n) (by rw [decDigits_val]; exact hn), decDigits_val]
theorem uint16_digits {n : Nat} (h : n < 65536) : Lib.parseUintB 16 (Lib.decDigits n) = .ok n := uint_digits (by decide) (by rw [show (2 : Nat) ^ 16 - 1 = 65535 from rfl]; omega)
theorem uint8_digits {n : Nat} (h : n < 256) : Lib.parseUintB 8 (Lib.decDigits n) = .ok n := uint_digits (by decide) (by rw [show (2 : Nat) ^ 8 - 1 = 255 from rfl]; omega)
theorem uint16_le {l : List UInt8} {n : Nat} (h : Lib.parseUintB 16 l = .ok n) : n < 65536 := by
  have := Lib.parseUintB_le h
  have e : (2 : Nat) ^ 16 - 1 = 65535 := by decide
  omega
theorem uint8_le {l : List UInt8} {n : Nat} (h : Lib.parseUintB 8 l = .ok n) : n < 256 := by
  have := Lib.parseUintB_le h
  have e : (2 : Nat) ^ 8 - 1 = 255 := by decide
  omega
/-- An address and a port. -/
def endL (a p : Nat) : List UInt8 := (textA a).data.toList ++ 58 :: Lib.decDigits p
/-- A header's text. -/
def Hd.textL (h : Hd) : List UInt8 := endL h.src.toNat h.sp.toNat ++ 32 :: (endL h.dst.toNat h.dp.toNat ++ 32 :: Lib.decDigits h.proto.toNat)
def Hd.text (h : Hd) : ByteArray := ⟨h.textL.toArray⟩
theorem text_list (h : Hd) : h.text.data.toList = h.textL := rfl
theorem not_text {c : UInt8} (hc : isDig c = false) (h46 : c ≠ 46) (a : Nat) : c ∉ (textA a).data.toList := by
  show c ∉ Lib.join [Lib.decDigits (octet a 0), Lib.decDigits (octet a 1), Lib.decDigits (octet a 2), Lib.decDigits (octet a 3)] [46]
  rw [join_four]
  intro h
  simp only [List.mem_append, List.mem_cons] at h
  have hd := fun n => not_dig (decDigits_all n) hc
  rcases h with h | h | h | h | h | h | h
  · exact hd _ h
  · exact h46 h
  · exact hd _ h
  · exact h46 h
  · exact hd _ h
  · exact h46 h
  · exact hd _ h
theorem not_dec {c : UInt8} (hc : isDig c = false) (n : Nat) : c ∉ Lib.decDigits n := not_dig (decDigits_all n) hc
theorem not_end (a p : Nat) : (32 : UInt8) ∉ endL a p := by
  intro h
  unfold endL at h
  rw [List.mem_append, List.mem_cons] at h
  rcases h with h | h | h
  · exact not_text (by decide) (by decide) a h
  · exact absurd h (by decide)
  · exact not_dec (by decide) p h
theorem text_pieces (h : Hd) : pieces 32 h.textL = [endL h.src.toNat h.sp.toNat, endL h.dst.toNat h.dp.toNat, Lib.decDigits h.proto.toNat] := by
  unfold Hd.textL
  rw [pieces_cons _ (not_end _ _), pieces_cons _ (not_end _ _), pieces_none (not_dec (by decide) _)]
theorem end_cut (a p : Nat) : Lib.cut (endL a p) [58] = ((textA a).data.toList, Lib.decDigits p, true) := cut_hit1 _ (not_text (by decide) (by decide) a)
/-- An address and a port of a text. -/
def endO (l : List UInt8) : Option (Nat × Nat) :=
  match parseB (Lib.cut l [58]).1, Lib.parseUintB 16 (Lib.cut l [58]).2.1 with
  | some a, .ok p => some (a, p)
  | _, _ => none
/-- The header that a text is the text of. -/
def hpO (l : List UInt8) : Option Hd :=
  match pieces 32 l with
  | [p, q, r] =>
    match endO p, endO q, Lib.parseUintB 8 r with
    | some (a, m), some (b, n), .ok k => if (⟨a, b, k, m, n⟩ : Hd).textL = l then some ⟨a, b, k, m, n⟩ else none
    | _, _, _ => none
  | _ => none
theorem endO_end {a p : Nat} (ha : a < 4294967296) (hp : p < 65536) : endO (endL a p) = some (a, p) := by
  unfold endO
  rw [end_cut, parse_text a ha, uint16_digits hp]
theorem hpO_text {h : Hd} (ho : h.ok) : hpO h.textL = some h := by
  obtain ⟨s0, s1, d0, d1, p0, p1, a0, a1, b0, b1⟩ := ho
  unfold hpO
  rw [text_pieces]
  simp only [endO_end (a := h.src.toNat) (p := h.sp.toNat) (by omega) (by omega), endO_end (a := h.dst.toNat) (p := h.dp.toNat) (by omega) (by omega), uint8_digits (n := h.proto.toNat) (by omega)]
  have e : (⟨(h.src.toNat : Int), (h.dst.toNat : Int), (h.proto.toNat : Int), (h.sp.toNat : Int), (h.dp.toNat : Int)⟩ : Hd) = h := by
    apply hd_ext <;> simp only <;> omega
  rw [e, if_pos rfl]
theorem endO_lt {l : List UInt8} {a p : Nat} (h : endO l = some (a, p)) : a < 4294967296 ∧ p < 65536 := by
  unfold endO at h
  split at h
  · rename_i h1 h2
    injection h with h; injection h with h3 h4
    subst h3 h4
    exact ⟨parseB_lt h1, uint16_le h2⟩
  · cases h
theorem hpO_some {l : List UInt8} {h : Hd} (e : hpO l = some h) : h.ok ∧ h.textL = l := by
  unfold hpO at e
  split at e
  · split at e
    · rename_i a m b n k h1 h2 h3
      split at e
      · rename_i ht
        injection e with e
        subst e
        have l1 := endO_lt h1
        have l2 := endO_lt h2
        have l3 := uint8_le h3
        exact ⟨⟨by simp only; omega, by simp only; omega, by simp only; omega, by simp only; omega, by simp only; omega, by simp only; omega, by simp only; omega, by simp only; omega, by simp only; omega, by simp only; omega⟩, ht⟩
      · cases e
    · cases e
  · cases e
/-- What Parse answers. -/
def hpV (l : List UInt8) : Hd := (hpO l).getD ⟨0, 0, 0, 0, 0⟩
def hpE (l : List UInt8) : Int := match hpO l with | some _ => 0 | none => 4
theorem hp_none {l : List UInt8} (h : hpO l = none) : hpV l = ⟨0, 0, 0, 0, 0⟩ ∧ hpE l = 4 := by unfold hpV hpE; rw [h]; exact ⟨rfl, rfl⟩
theorem hp_some {l : List UInt8} {x : Hd} (h : hpO l = some x) : hpV l = x ∧ hpE l = 0 := by unfold hpV hpE; rw [h]; exact ⟨rfl, rfl⟩
end Go.Proofs.YtlhafehhkjjchaaGreatDoor

/-
  Walks over the document's addresses: Read.
-/
namespace Go.Proofs.YtlhafehhkjjchaaGreatDoor
open Go Go.RowKit Go.Sort

/-- What Read hands back. -/
def rdV (l : List UInt8) (m : Nat) : Int := match readB l m with | some n => n | none => -1
theorem rdV_none {l : List UInt8} {m : Nat} (h : readB l m = none) : rdV l m = -1 := by unfold rdV; rw [h]
theorem rdV_some {l : List UInt8} {m n : Nat} (h : readB l m = some n) : rdV l m = n := by unfold rdV; rw [h]
theorem dec_long : ∀ (k n : Nat), k + 1 < (Lib.decDigits n).length → 10 ^ (k + 1) ≤ n
  | 0, n, h => by
    rcases (show n < 10 ∨ 10 ≤ n by omega) with h1 | h1
    · rw [decDigits_small h1] at h; simp at h
    · simpa using h1
  | k + 1, n, h => by
    rcases (show n < 10 ∨ 10 ≤ n by omega) with h1 | h1
    · rw [decDigits_small h1] at h; simp at h
    · rw [decDigits_big (by omega), List.length_append] at h
      have := dec_long k (n / 10) (by simp at h; omega)
      rw [Nat.pow_succ]; omega
theorem readB_long {l : List UInt8} {m : Nat} (hm : m < 1000000000000) (h : 12 < l.length) : readB l m = none := by
  cases e : readB l m with
  | none => rfl
  | some n =>
    obtain ⟨h1, h2⟩ := readB_some.1 e
    have := dec_long 11 n (by rw [h1]; omega)
    omega
theorem readB_zero {l : List UInt8} {m : Nat} (h : 1 < l.length) (h0 : l.head? = some 48) : readB l m = none := by unfold readB; rw [if_pos (Or.inr (Or.inl ⟨h, h0⟩))]
theorem readB_nil (m : Nat) : readB [] m = none := by unfold readB; rw [if_pos (Or.inl rfl)]
theorem readB_bad {l : List UInt8} {m : Nat} {i : Nat} {c : UInt8} (h : l[i]? = some c) (hc : isDig c = false) : readB l m = none := by
  unfold readB
  rw [if_pos (Or.inr (Or.inr ?_))]
  cases e : l.all isDig with
  | false => rfl
  | true => have := List.all_eq_true.1 e c (List.mem_of_getElem? h); rw [hc] at this; cases this
theorem readB_good {l : List UInt8} {m : Nat} (h0 : l ≠ []) (hz : ¬ (1 < l.length ∧ l.head? = some 48)) (hall : l.all isDig = true) : readB l m = if valD 0 l ≤ m then some (valD 0 l) else none := by
  unfold readB
  rw [if_neg]
  rintro (h | h | h)
  · exact h0 h
  · exact hz h
  · rw [hall] at h; cases h
theorem valD_take {l : List UInt8} {i : Nat} {c : UInt8} (h : l[i]? = some c) : valD 0 (l.take (i + 1)) = 10 * valD 0 (l.take i) + (c.toNat - 48) := by
  rw [List.take_add_one, h, valD_append]
  rfl
theorem valD_lt : ∀ (k : Nat) (l : List UInt8), l.length ≤ k → l.all isDig = true → valD 0 l < 10 ^ k := by
  intro k
  induction k with
  | zero => intro l hl _; obtain rfl := List.length_eq_zero_iff.1 (Nat.le_zero.1 hl); decide
  | succ k ih =>
    intro l hl hall
    by_cases hne : l = []
    · subst hne; exact Nat.pow_pos (by decide)
    · obtain ⟨r, c, rfl⟩ : ∃ r c, l = r ++ [c] := ⟨l.dropLast, l.getLast hne, (List.dropLast_concat_getLast hne).symm⟩
      rw [valD_append]
      simp at hl hall
      have := ih r hl (by simpa using hall.1)
      have hc := (of_dig c hall.2).2
      simp only [valD, List.foldl_cons, List.foldl_nil] at this ⊢
      rw [Nat.pow_succ]; omega

end Go.Proofs.YtlhafehhkjjchaaGreatDoor

/-
  The text of a rule, and the rule of a text: plain laws; no walk.
-/
namespace Go.Proofs.YtlhafehhkjjchaaGreatDoor
open Go Go.RowKit Go.Sort

theorem pieces_joinL (c : UInt8) : ∀ (L : List (List UInt8)), L ≠ [] → (∀ x ∈ L, c ∉ x) → pieces c (Lib.join L [c]) = L
  | [], h, _ => absurd rfl h
  | [x], _, h => by rw [Lib.join_one]; exact pieces_none (h x (by simp))
  | x :: y :: r, _, h => by
    have e : Lib.join (x :: y :: r) [c] = x ++ c :: Lib.join (y :: r) [c] := by
      rw [Lib.join_cons, Lib.join_cons]
      simp [Lib.joinTail]
    rw [e, pieces_cons _ (h x (by simp)), pieces_joinL c (y :: r) (by simp) (fun z hz => h z (List.mem_cons_of_mem _ hz))]
def portT (lo hi : Int) : List UInt8 := Lib.decDigits lo.toNat ++ 45 :: Lib.decDigits hi.toNat
def permitW : List UInt8 := [112, 101, 114, 109, 105, 116]
def denyW : List UInt8 := [100, 101, 110, 121]
def anyW : List UInt8 := [97, 110, 121]
def whatT (b : Bool) : List UInt8 := if b then permitW else denyW
def protoT (p : Int) : List UInt8 := if 0 ≤ p then Lib.decDigits p.toNat else anyW
def prefT (a n : Int) : List UInt8 := (textP a.toNat n).data.toList
/-- A rule's words. -/
def RuleV.words (r : RuleV) : List (List UInt8) := [whatT r.permit, protoT r.proto, prefT r.sa r.sn, prefT r.da r.dn, portT r.sl r.sh, portT r.dl r.dh]
/-- A rule's text. -/
def RuleV.text (r : RuleV) : List UInt8 := Lib.join r.words [32]
theorem mayB_ok {r : RuleV} (h : mayB r = true) : -1 ≤ r.proto ∧ r.proto ≤ 255 ∧ chk r.sa r.sn = 0 ∧ chk r.da r.dn = 0 ∧ r.sl ≤ r.sh ∧ r.sh ≤ 65535 ∧ r.dl ≤ r.dh ∧ r.dh ≤ 65535 := by
  simpa [mayB, portsB, and_assoc] using h
theorem prefT_nat {a n : Int} (h : 0 ≤ n) : prefT a n = (textA a.toNat).data.toList ++ 47 :: Lib.decDigits n.toNat := by
  obtain ⟨k, rfl⟩ := Int.eq_ofNat_of_zero_le h
  unfold prefT
  rw [textP_list, Int.toNat_natCast]
theorem prefT_no {a n : Int} (h : 0 ≤ n) : (32 : UInt8) ∉ prefT a n := by
  rw [prefT_nat h]
  intro hm
  rw [List.mem_append, List.mem_cons] at hm
  rcases hm with hm | hm | hm
  · exact not_text (by decide) (by decide) _ hm
  · exact absurd hm (by decide)
  · exact not_dec (by decide) _ hm
theorem portT_no (lo hi : Int) : (32 : UInt8) ∉ portT lo hi := by
  unfold portT
  intro hm
  rw [List.mem_append, List.mem_cons] at hm
  rcases hm with hm | hm | hm
  · exact not_dec (by decide) _ hm
  · exact absurd hm (by decide)
  · exact not_dec (by decide) _ hm
theorem words_no {r : RuleV} (h : mayB r = true) : ∀ x ∈ r.words, (32 : UInt8) ∉ x := by
  obtain ⟨_, _, h3, h4, _⟩ := mayB_ok h
  have k3 := chk_ok h3
  have k4 := chk_ok h4
  intro x hx
  simp only [RuleV.words, List.mem_cons, List.not_mem_nil, or_false] at hx
  rcases hx with rfl | rfl | rfl | rfl | rfl | rfl
  · unfold whatT; split <;> decide
  · unfold protoT; split
    · exact not_dec (by decide) _
    · decide
  · exact prefT_no k3.1
  · exact prefT_no k4.1
  · exact portT_no _ _
  · exact portT_no _ _
theorem text_words {r : RuleV} (h : mayB r = true) : pieces 32 r.text = r.words := pieces_joinL 32 _ (by simp [RuleV.words]) (words_no h)
/-- What is read of the words. -/
def permR (w : List UInt8) : Bool := decide (w = permitW)
def protoR (w : List UInt8) : Option Int := if w = anyW then some (-1) else match Lib.parseUintB 8 w with | .ok n => some n | _ => none
def protoD (w : List UInt8) : Option Int := if w = anyW then some (-1) else if rdV w 255 < 0 then none else some (rdV w 255)
def endsR (w : List UInt8) : Int × Int :=
  match Lib.parseUintB 16 (Lib.cut w [45]).1, Lib.parseUintB 16 (Lib.cut w [45]).2.1 with
  | .ok a, .ok b => (a, b)
  | _, _ => (1, 0)
theorem permR_what (b : Bool) : permR (whatT b) = b := by cases b <;> decide
theorem dec_any (n : Nat) : Lib.decDigits n ≠ anyW := by
  intro h
  have := decDigits_all n
  rw [h] at this
  exact absurd this (by decide)
theorem protoR_T {p : Int} (h0 : -1 ≤ p) (h1 : p ≤ 255) : protoR (protoT p) = some p := by
  unfold protoR protoT
  by_cases h : 0 ≤ p
  · rw [if_pos h, if_neg (dec_any _), uint8_digits (by omega)]
    simp; omega
  · rw [if_neg h, if_pos rfl]
    simp; omega
theorem protoD_T {p : Int} (h0 : -1 ≤ p) (h1 : p ≤ 255) : protoD (protoT p) = some p := by
  unfold protoD protoT
  by_cases h : 0 ≤ p
  · have e : rdV (Lib.decDigits p.toNat) 255 = p := by
      rw [rdV_some (readB_some.2 ⟨rfl, by omega⟩)]
      omega
    rw [if_pos h, if_neg (dec_any _), e, if_neg (by omega)]
  · rw [if_neg h, if_pos rfl]
    simp; omega
theorem endsR_T {lo hi : Int} (h0 : 0 ≤ lo) (h1 : lo ≤ hi) (h2 : hi ≤ 65535) : endsR (portT lo hi) = (lo, hi) := by
  unfold endsR portT
  rw [cut_hit1 _ (not_dec (by decide) _)]
  simp only [uint16_digits (n := lo.toNat) (by omega), uint16_digits (n := hi.toNat) (by omega)]
  rw [Int.toNat_of_nonneg h0, Int.toNat_of_nonneg (by omega)]
theorem endsR_lt (w : List UInt8) : 0 ≤ (endsR w).1 ∧ (endsR w).1 < 65536 ∧ 0 ≤ (endsR w).2 ∧ (endsR w).2 < 65536 := by
  unfold endsR
  split
  · rename_i a b h1 h2
    have := uint16_le h1
    have := uint16_le h2
    dsimp only
    omega
  · decide
/-- What the document's words read: the numbers, and whether they are any. -/
def portsD (w : List UInt8) : (Int × Int) × Bool :=
  if (Lib.cut w [45]).2.2 = true then ((rdV (Lib.cut w [45]).1 65535 % 4294967296, rdV (Lib.cut w [45]).2.1 65535 % 4294967296), decide (0 ≤ rdV (Lib.cut w [45]).1 65535) && decide (0 ≤ rdV (Lib.cut w [45]).2.1 65535)) else ((0, 0), false)
theorem portsD_T {lo hi : Int} (h0 : 0 ≤ lo) (h1 : lo ≤ hi) (h2 : hi ≤ 65535) : portsD (portT lo hi) = ((lo, hi), true) := by
  unfold portsD portT
  rw [cut_hit1 _ (not_dec (by decide) _)]
  have e1 : rdV (Lib.decDigits lo.toNat) 65535 = lo := by
    rw [rdV_some (readB_some.2 ⟨rfl, by omega⟩)]
    omega
  have e2 : rdV (Lib.decDigits hi.toNat) 65535 = hi := by
    rw [rdV_some (readB_some.2 ⟨rfl, by omega⟩)]
    omega
  simp only [e1, e2, if_true]
  rw [Int.emod_eq_of_lt h0 (by omega), Int.emod_eq_of_lt (by omega) (by omega)]
  simp
  omega
theorem rdV_le (l : List UInt8) (m : Nat) : -1 ≤ rdV l m ∧ rdV l m ≤ m := by
  unfold rdV
  split
  · rename_i n h
    have := readB_le h
    omega
  · omega
theorem portsD_lt (w : List UInt8) : 0 ≤ (portsD w).1.1 ∧ (portsD w).1.1 < 4294967296 ∧ 0 ≤ (portsD w).1.2 ∧ (portsD w).1.2 < 4294967296 := by
  unfold portsD
  split
  · dsimp only
    omega
  · decide
theorem ppO_T {a n : Int} (h0 : 0 ≤ a) (h1 : a < 4294967296) (h : chk a n = 0) : ppA (prefT a n) = a ∧ ppN (prefT a n) = n ∧ ppE (prefT a n) = 0 := by
  obtain ⟨k0, k1, _⟩ := chk_ok h
  have e := prefix_text a.toNat n.toNat (by omega) (by omega)
  rw [Int.toNat_of_nonneg k0] at e
  have hy := pp_yes (l := prefT a n) (a := a.toNat) (n := n.toNat) e (by rw [Int.toNat_of_nonneg k0, Int.toNat_of_nonneg h0]; exact h)
  rw [hy.1, hy.2.1, hy.2.2]
  omega
theorem ppA_lt (l : List UInt8) : 0 ≤ ppA l ∧ ppA l < 4294967296 := by
  rcases pp_cases l with h | ⟨a, n, _, h2, _, h4, _⟩
  · unfold ppA ppE at *
    split
    · omega
    · rename_i a n hO
      rw [hO] at h
      dsimp only at h
      rw [if_neg h]
      omega
  · rw [h2]; omega
theorem ppN_range (l : List UInt8) : 0 ≤ ppN l ∧ ppN l ≤ 32 := by
  rcases pp_cases l with h | ⟨a, n, _, _, h3, _, h5, _⟩
  · unfold ppN ppE at *
    split
    · omega
    · rename_i a n hO
      rw [hO] at h
      dsimp only at h
      rw [if_neg h]
      omega
  · rw [h3]; omega
theorem rule_ext {r q : RuleV} (h0 : r.permit = q.permit) (h1 : r.proto = q.proto) (h2 : r.sa = q.sa) (h3 : r.sn = q.sn) (h4 : r.da = q.da) (h5 : r.dn = q.dn) (h6 : r.sl = q.sl) (h7 : r.sh = q.sh) (h8 : r.dl = q.dl) (h9 : r.dh = q.dh) : r = q := by
  cases r; cases q; simp_all
/-- What the words of a rule's text are read to. -/
structure ReadsTo (r : RuleV) (p0 p1 p2 p3 p4 p5 : List UInt8) : Prop where
  permit : permR p0 = r.permit
  proto : protoR p1 = some r.proto
  protoD : protoD p1 = some r.proto
  sa : ppA p2 = r.sa
  sn : ppN p2 = r.sn
  se : ppE p2 = 0
  da : ppA p3 = r.da
  dn : ppN p3 = r.dn
  de : ppE p3 = 0
  sp : endsR p4 = (r.sl, r.sh)
  dp : endsR p5 = (r.dl, r.dh)
  spD : portsD p4 = ((r.sl, r.sh), true)
  dpD : portsD p5 = ((r.dl, r.dh), true)
theorem reads_to {r : RuleV} {l p0 p1 p2 p3 p4 p5 : List UInt8} (h : mayB r = true) (hl : r.text = l) (hp : pieces 32 l = [p0, p1, p2, p3, p4, p5]) : ReadsTo r p0 p1 p2 p3 p4 p5 := by
  have hw := text_words h
  rw [hl, hp] at hw
  unfold RuleV.words at hw
  injection hw with e0 hw
  injection hw with e1 hw
  injection hw with e2 hw
  injection hw with e3 hw
  injection hw with e4 hw
  injection hw with e5 hw
  subst e0 e1 e2 e3 e4 e5
  obtain ⟨k0, k1, k2, k3, k4, k5, k6, k7⟩ := mayB_ok h
  have a1 := ppO_T r.hsa.1 r.hsa.2 k2
  have a2 := ppO_T r.hda.1 r.hda.2 k3
  exact ⟨permR_what _, protoR_T k0 k1, protoD_T k0 k1, a1.1, a1.2.1, a1.2.2, a2.1, a2.2.1, a2.2.2, endsR_T r.hsl.1 k4 k5, endsR_T r.hdl.1 k6 k7, portsD_T r.hsl.1 k4 k5, portsD_T r.hdl.1 k6 k7⟩
theorem reads_len {r : RuleV} {l : List UInt8} (h : mayB r = true) (hl : r.text = l) : (pieces 32 l).length = 6 := by
  rw [← hl, text_words h]
  rfl
theorem six {α : Type} {L : List α} (h : L.length = 6) : ∃ a b c d e f, L = [a, b, c, d, e, f] := by
  match L, h with
  | [a, b, c, d, e, f], _ => exact ⟨a, b, c, d, e, f, rfl⟩
theorem rule_inj {r q : RuleV} (h : mayB r = true) (hq : mayB q = true) (e : r.text = q.text) : r = q := by
  obtain ⟨p0, p1, p2, p3, p4, p5, hp⟩ := six (reads_len h rfl)
  have a := reads_to h rfl hp
  have b := reads_to hq e.symm hp
  have s1 := a.sp.symm.trans b.sp
  have s2 := a.dp.symm.trans b.dp
  injection s1 with s1 s3
  injection s2 with s2 s4
  have e1 := a.proto.symm.trans b.proto
  injection e1 with e1
  exact rule_ext (a.permit.symm.trans b.permit) e1 (a.sa.symm.trans b.sa) (a.sn.symm.trans b.sn) (a.da.symm.trans b.da) (a.dn.symm.trans b.dn) s1 s3 s2 s4
open Classical in
/-- The rule that a text is the text of. -/
noncomputable def frO (l : List UInt8) : Option RuleV := if h : ∃ r : RuleV, mayB r = true ∧ r.text = l then some h.choose else none
theorem frO_text {r : RuleV} (h : mayB r = true) : frO r.text = some r := by
  have he : ∃ q : RuleV, mayB q = true ∧ q.text = r.text := ⟨r, h, rfl⟩
  unfold frO
  rw [dif_pos he, rule_inj he.choose_spec.1 h he.choose_spec.2]
theorem frO_some {l : List UInt8} {r : RuleV} (h : frO l = some r) : mayB r = true ∧ r.text = l := by
  unfold frO at h
  split at h
  · rename_i he
    injection h with h
    rw [← h]
    exact he.choose_spec
  · cases h
theorem frO_no {l : List UInt8} (h : ∀ r : RuleV, mayB r = true → r.text = l → False) : frO l = none := by
  cases e : frO l with
  | none => rfl
  | some r => exact (h r (frO_some e).1 (frO_some e).2).elim
theorem frO_len {l : List UInt8} (h : (pieces 32 l).length ≠ 6) : frO l = none := frO_no fun _ h1 h2 => h (reads_len h1 h2)
/-- A rule as the program's words, or the document's, were read to. -/
structure Cand (c : RuleV) (p0 p2 p3 : List UInt8) : Prop where
  permit : c.permit = permR p0
  sa : c.sa = ppA p2
  sn : c.sn = ppN p2
  da : c.da = ppA p3
  dn : c.dn = ppN p3
theorem frO_cand {l p0 p1 p2 p3 p4 p5 : List UInt8} {c : RuleV} (hp : pieces 32 l = [p0, p1, p2, p3, p4, p5]) (hc : Cand c p0 p2 p3) (h1 : protoR p1 = some c.proto) (h2 : endsR p4 = (c.sl, c.sh)) (h3 : endsR p5 = (c.dl, c.dh)) :
    frO l = if ppE p2 = 0 ∧ ppE p3 = 0 ∧ mayB c = true ∧ c.text = l then some c else none := by
  split
  · rename_i h
    rw [← h.2.2.2]
    exact frO_text h.2.2.1
  · rename_i h
    refine frO_no fun r hr ht => h ?_
    have a := reads_to hr ht hp
    have s1 := a.sp.symm.trans h2
    have s2 := a.dp.symm.trans h3
    injection s1 with s1 s3
    injection s2 with s2 s4
    have e1 := a.proto.symm.trans h1
    injection e1 with e1
    obtain rfl : r = c := rule_ext (a.permit.symm.trans hc.permit.symm) e1 (a.sa.symm.trans hc.sa.symm) (a.sn.symm.trans hc.sn.symm) (a.da.symm.trans hc.da.symm) (a.dn.symm.trans hc.dn.symm) s1 s3 s2 s4
    exact ⟨a.se, a.de, hr, ht⟩
theorem frO_candD {l p0 p1 p2 p3 p4 p5 : List UInt8} {c : RuleV} (hp : pieces 32 l = [p0, p1, p2, p3, p4, p5]) (hc : Cand c p0 p2 p3) (h1 : protoD p1 = some c.proto) {u v : Bool} (h2 : portsD p4 = ((c.sl, c.sh), u)) (h3 : portsD p5 = ((c.dl, c.dh), v)) :
    frO l = if ppE p2 = 0 ∧ ppE p3 = 0 ∧ u = true ∧ v = true ∧ mayB c = true ∧ c.text = l then some c else none := by
  split
  · rename_i h
    rw [← h.2.2.2.2.2]
    exact frO_text h.2.2.2.2.1
  · rename_i h
    refine frO_no fun r hr ht => h ?_
    have a := reads_to hr ht hp
    have s1 := a.spD.symm.trans h2
    have s2 := a.dpD.symm.trans h3
    injection s1 with s1 u1
    injection s1 with s1 s3
    injection s2 with s2 u2
    injection s2 with s2 s4
    have e1 := a.protoD.symm.trans h1
    injection e1 with e1
    obtain rfl : r = c := rule_ext (a.permit.symm.trans hc.permit.symm) e1 (a.sa.symm.trans hc.sa.symm) (a.sn.symm.trans hc.sn.symm) (a.da.symm.trans hc.da.symm) (a.dn.symm.trans hc.dn.symm) s1 s3 s2 s4
    exact ⟨a.se, a.de, u1.symm, u2.symm, hr, ht⟩
theorem frO_proto {l p0 p1 p2 p3 p4 p5 : List UInt8} (hp : pieces 32 l = [p0, p1, p2, p3, p4, p5]) (h1 : protoR p1 = none) : frO l = none := frO_no fun r hr ht => by
  have := (reads_to hr ht hp).proto
  rw [h1] at this
  cases this
theorem frO_protoD {l p0 p1 p2 p3 p4 p5 : List UInt8} (hp : pieces 32 l = [p0, p1, p2, p3, p4, p5]) (h1 : protoD p1 = none) : frO l = none := frO_no fun r hr ht => by
  have := (reads_to hr ht hp).protoD
  rw [h1] at this
  cases this
/-- What Parse answers. -/
noncomputable def frV (l : List UInt8) : RuleV := (frO l).getD default
noncomputable def frE (l : List UInt8) : Int := if (frO l).isSome then 0 else 4
theorem fr_none {l : List UInt8} (h : frO l = none) : frV l = default ∧ frE l = 4 := by unfold frV frE; rw [h]; exact ⟨rfl, rfl⟩
theorem fr_some {l : List UInt8} {r : RuleV} (h : frO l = some r) : frV l = r ∧ frE l = 0 := by unfold frV frE; rw [h]; exact ⟨rfl, rfl⟩
/-- What Text answers. -/
def RuleV.told (r : RuleV) : List UInt8 := if mayB r then r.text else []
def RuleV.toldE (r : RuleV) : Int := if mayB r then 0 else 121
theorem told_yes {r : RuleV} (h : mayB r = true) : r.told = r.text ∧ r.toldE = 0 := by unfold RuleV.told RuleV.toldE; rw [if_pos h, if_pos h]; exact ⟨rfl, rfl⟩
theorem told_no {r : RuleV} (h : mayB r = false) : r.told = [] ∧ r.toldE = 121 := by unfold RuleV.told RuleV.toldE; rw [h]; exact ⟨rfl, rfl⟩
def RuleV.agg (r : RuleV) : Value := .agg r.enc.toArray
end Go.Proofs.YtlhafehhkjjchaaGreatDoor

/-
  strconv.FormatUint at base 10: the number's decimal digits.
-/
namespace Go.Proofs.YtlhafehhkjjchaaGreatDoor
open Go Go.RowKit Go.Lib Go.Sort

end Go.Proofs.YtlhafehhkjjchaaGreatDoor

/-
  Sets of numbers as spans: the list in normal form with given members; one step of the merging. No program in sight.
-/
namespace Go.Proofs.YtlhafehhkjjchaaGreatDoor

open Classical in
/-- The normal form of a set of numbers (if it has one). -/
noncomputable def theSet (P : Int → Bool) : List SpanV := if h : ∃ R : List SpanV, NF R ∧ ∀ x, hasB R x = P x then h.choose else []
theorem theSet_eq {P : Int → Bool} {R : List SpanV} (h : NF R) (hm : ∀ x, hasB R x = P x) : theSet P = R := by
  have he : ∃ R : List SpanV, NF R ∧ ∀ x, hasB R x = P x := ⟨R, h, hm⟩
  unfold theSet
  rw [dif_pos he]
  exact NF.unique he.choose_spec.1 h (fun x => (he.choose_spec.2 x).trans (hm x).symm)
theorem inB_iff {s : SpanV} {x : Int} : s.inB x = true ↔ s.lo ≤ x ∧ x ≤ s.hi := by simp [SpanV.inB]
theorem hasB_append (A B : List SpanV) (x : Int) : hasB (A ++ B) x = (hasB A x || hasB B x) := by simp [hasB]
theorem hasB_one (s : SpanV) (x : Int) : hasB [s] x = s.inB x := by simp [hasB]
theorem hasB_perm {A B : List SpanV} (h : A.Perm B) (x : Int) : hasB A x = hasB B x := by
  rw [Bool.eq_iff_iff, hasB_iff, hasB_iff]
  constructor
  · rintro ⟨s, hs, h1⟩; exact ⟨s, h.mem_iff.1 hs, h1⟩
  · rintro ⟨s, hs, h1⟩; exact ⟨s, h.mem_iff.2 hs, h1⟩
theorem NF.snoc : ∀ {A : List SpanV} {t : SpanV}, NF (A ++ [t]) ↔ NF A ∧ t.lo ≤ t.hi ∧ ∀ a ∈ A, a.hi + 1 < t.lo
  | [], t => by simp [NF]
  | s :: A, t => by
    have ih := @NF.snoc A t
    show (s.lo ≤ s.hi ∧ (∀ u ∈ A ++ [t], s.hi + 1 < u.lo) ∧ NF (A ++ [t])) ↔ _
    rw [ih]
    constructor
    · rintro ⟨h1, h2, h3, h4, h5⟩
      refine ⟨⟨h1, fun u hu => h2 u (List.mem_append_left _ hu), h3⟩, h4, fun a ha => ?_⟩
      rcases List.mem_cons.1 ha with rfl | ha
      · exact h2 t (List.mem_append_right _ (List.mem_singleton.2 rfl))
      · exact h5 a ha
    · rintro ⟨⟨h1, h2, h3⟩, h4, h5⟩
      refine ⟨h1, fun u hu => ?_, h3, h4, fun a ha => h5 a (List.mem_cons_of_mem _ ha)⟩
      rcases List.mem_append.1 hu with hu | hu
      · exact h2 u hu
      · obtain rfl := List.mem_singleton.1 hu
        exact h5 s (List.mem_cons_self ..)
/-- A span that reaches farther. -/
def SpanV.reach (t s : SpanV) : SpanV := ⟨t.lo, max t.hi s.hi, t.hlo, by have := t.hhi; have := s.hhi; omega⟩
theorem merge_in {A : List SpanV} {t s : SpanV} (h : NF (A ++ [t])) (hs : s.lo ≤ s.hi) (hts : t.lo ≤ s.lo) (hm : s.lo ≤ t.hi + 1) :
    NF (A ++ [t.reach s]) ∧ ∀ x, hasB (A ++ [t.reach s]) x = (hasB (A ++ [t]) x || s.inB x) := by
  obtain ⟨h1, h2, h3⟩ := NF.snoc.1 h
  refine ⟨NF.snoc.2 ⟨h1, ?_, h3⟩, fun x => ?_⟩
  · show t.lo ≤ max t.hi s.hi
    omega
  · rw [hasB_append, hasB_append, hasB_one, hasB_one, Bool.or_assoc]
    congr 1
    rw [Bool.eq_iff_iff, Bool.or_eq_true, inB_iff, inB_iff, inB_iff]
    show (t.lo ≤ x ∧ x ≤ max t.hi s.hi) ↔ _
    omega
theorem merge_new {A : List SpanV} {t s : SpanV} (h : NF (A ++ [t])) (hs : s.lo ≤ s.hi) (hm : t.hi + 1 < s.lo) : NF (A ++ [t] ++ [s]) := by
  obtain ⟨h1, h2, h3⟩ := NF.snoc.1 h
  refine NF.snoc.2 ⟨h, hs, fun a ha => ?_⟩
  rcases List.mem_append.1 ha with ha | ha
  · have := h3 a ha; omega
  · obtain rfl := List.mem_singleton.1 ha
    exact hm

end Go.Proofs.YtlhafehhkjjchaaGreatDoor

/-
  The text of a set of numbers, and what is read of a text: no program in sight.
-/
namespace Go.Proofs.YtlhafehhkjjchaaGreatDoor

def SpanV.t (s : SpanV) : List UInt8 := if s.lo = s.hi then Lib.decDigits s.lo.toNat else Lib.decDigits s.lo.toNat ++ 45 :: Lib.decDigits s.hi.toNat
def joinC : List (List UInt8) → List UInt8
  | [] => []
  | [x] => x
  | x :: y :: r => x ++ 44 :: joinC (y :: r)
def setT (F : List SpanV) : List UInt8 := if F = [] then [45] else joinC (F.map SpanV.t)
theorem t_comma (s : SpanV) : (44 : UInt8) ∉ s.t := by
  unfold SpanV.t
  split
  · exact not_dec (by decide) _
  · intro h
    rw [List.mem_append, List.mem_cons] at h
    rcases h with h | h | h
    · exact not_dec (by decide) _ h
    · exact absurd h (by decide)
    · exact not_dec (by decide) _ h
theorem pieces_join : ∀ (L : List (List UInt8)), L ≠ [] → (∀ x ∈ L, (44 : UInt8) ∉ x) → pieces 44 (joinC L) = L
  | [], h, _ => absurd rfl h
  | [x], _, h => pieces_none (h x (by simp))
  | x :: y :: r, _, h => by
    rw [joinC, pieces_cons _ (h x (by simp)), pieces_join (y :: r) (by simp) (fun z hz => h z (List.mem_cons_of_mem _ hz))]
theorem setT_pieces {F : List SpanV} (h : F ≠ []) : pieces 44 (setT F) = F.map SpanV.t := by
  unfold setT
  rw [if_neg h]
  exact pieces_join _ (by simpa using h) (fun x hx => by
    obtain ⟨s, _, rfl⟩ := List.mem_map.1 hx
    exact t_comma s)
theorem uint32_digits {n : Nat} (h : n < 4294967296) : Lib.parseUintB 32 (Lib.decDigits n) = .ok n := uint_digits (by decide) (by rw [show (2 : Nat) ^ 32 - 1 = 4294967295 from rfl]; omega)
theorem uint32_le {l : List UInt8} {n : Nat} (h : Lib.parseUintB 32 l = .ok n) : n < 4294967296 := by
  have := Lib.parseUintB_le h
  have e : (2 : Nat) ^ 32 - 1 = 4294967295 := by decide
  omega
theorem index_none1 {c : UInt8} : ∀ {l : List UInt8}, c ∉ l → Lib.index l [c] = -1
  | [], _ => by simp [Lib.index]
  | x :: r, h => by
    rw [index_one, if_neg (fun e => h (by simp [e])), index_none1 (fun hm => h (List.mem_cons_of_mem _ hm)), if_pos rfl]
theorem cut_none1 {c : UInt8} {l : List UInt8} (h : c ∉ l) : Lib.cut l [c] = (l, [], false) := by
  unfold Lib.cut
  rw [index_none1 h, if_neg (by omega)]
/-- A word's two numbers. -/
def wordO (w : List UInt8) : Option (Nat × Nat) :=
  match Lib.parseUintB 32 (Lib.cut w [45]).1, Lib.parseUintB 32 (if (Lib.cut w [45]).2.2 then (Lib.cut w [45]).2.1 else (Lib.cut w [45]).1) with
  | .ok a, .ok b => if a ≤ b ∧ ((Lib.cut w [45]).2.2 = true → a ≠ b) then some (a, b) else none
  | _, _ => none
theorem wordO_t {s : SpanV} (h : s.lo ≤ s.hi) : wordO s.t = some (s.lo.toNat, s.hi.toNat) := by
  have := s.hlo
  have := s.hhi
  unfold wordO SpanV.t
  by_cases e : s.lo = s.hi
  · rw [if_pos e, ← e, cut_none1 (not_dec (by decide) _)]
    simp only [Bool.false_eq_true, if_false, uint32_digits (n := s.lo.toNat) (by omega)]
    simp
  · rw [if_neg e, cut_hit1 _ (not_dec (by decide) _)]
    simp only [if_true, uint32_digits (n := s.lo.toNat) (by omega), uint32_digits (n := s.hi.toNat) (by omega)]
    rw [if_pos ⟨by omega, fun _ => by omega⟩]
def SpanV.two (s : SpanV) : Nat × Nat := (s.lo.toNat, s.hi.toNat)
/-- The words' numbers. -/
def readL : List (List UInt8) → Option (List (Nat × Nat))
  | [] => some []
  | w :: r => match wordO w, readL r with
    | some x, some l => some (x :: l)
    | _, _ => none
theorem readL_t : ∀ (F : List SpanV), (∀ s ∈ F, s.lo ≤ s.hi) → readL (F.map SpanV.t) = some (F.map SpanV.two)
  | [], _ => rfl
  | s :: r, h => by
    rw [List.map_cons, readL, wordO_t (h s (by simp)), readL_t r (fun x hx => h x (List.mem_cons_of_mem _ hx))]
    rfl
/-- What is read of the text of a set in its form is that set. -/
theorem read_back {F : List SpanV} (h : F ≠ []) (hn : ∀ s ∈ F, s.lo ≤ s.hi) : readL (pieces 44 (setT F)) = some (F.map SpanV.two) := by
  rw [setT_pieces h, readL_t F hn]
theorem two_inj {s t : SpanV} (h : s.two = t.two) : s = t := by
  have h1 := s.hlo
  have h2 := s.hhi
  have h3 := t.hlo
  have h4 := t.hhi
  unfold SpanV.two at h
  injection h with e1 e2
  exact SpanV.eq (by omega) (by omega)
theorem map_two_inj : ∀ {A B : List SpanV}, A.map SpanV.two = B.map SpanV.two → A = B
  | [], [], _ => rfl
  | [], _ :: _, h => by simp at h
  | _ :: _, [], h => by simp at h
  | a :: A, b :: B, h => by
    rw [List.map_cons, List.map_cons] at h
    injection h with h1 h2
    rw [two_inj h1, map_two_inj h2]
/-- A list that a text was read to, and whose form has that text, is its form. -/
theorem read_form {l F : List SpanV} {s : List UInt8} (hs : s ≠ [45]) (hl : readL (pieces 44 s) = some (l.map SpanV.two)) (hF : ∀ x ∈ F, x.lo ≤ x.hi) (ht : setT F = s) : l = F := by
  have hne : F ≠ [] := fun e => hs (by rw [← ht, e]; rfl)
  have h := read_back hne hF
  rw [ht, hl] at h
  injection h with h
  exact map_two_inj h
/-- A word's two numbers as the document reads them: in their one spelling. -/
def wordD (w : List UInt8) : Option (Nat × Nat) :=
  match readB (Lib.cut w [45]).1 4294967295, readB (if (Lib.cut w [45]).2.2 then (Lib.cut w [45]).2.1 else (Lib.cut w [45]).1) 4294967295 with
  | some a, some b => if a ≤ b ∧ ((Lib.cut w [45]).2.2 = true → a ≠ b) then some (a, b) else none
  | _, _ => none
theorem read_uint {l : List UInt8} {n : Nat} (h : readB l 4294967295 = some n) : Lib.parseUintB 32 l = .ok n := by
  obtain ⟨h1, h2⟩ := readB_some.1 h
  rw [← h1]
  exact uint32_digits (by omega)
theorem wordD_O {w : List UInt8} {x : Nat × Nat} (h : wordD w = some x) : wordO w = some x := by
  unfold wordD at h
  unfold wordO
  split at h
  · rename_i a b h1 h2
    rw [read_uint h1, read_uint h2]
    exact h
  · cases h
theorem wordD_t {s : SpanV} (h : s.lo ≤ s.hi) : wordD s.t = some (s.lo.toNat, s.hi.toNat) := by
  have := s.hlo
  have := s.hhi
  have hr : ∀ n : Nat, n ≤ 4294967295 → readB (Lib.decDigits n) 4294967295 = some n := fun n hn => readB_some.2 ⟨rfl, hn⟩
  unfold wordD SpanV.t
  by_cases e : s.lo = s.hi
  · rw [if_pos e, ← e, cut_none1 (not_dec (by decide) _)]
    simp only [Bool.false_eq_true, if_false, hr s.lo.toNat (by omega)]
    simp
  · rw [if_neg e, cut_hit1 _ (not_dec (by decide) _)]
    simp only [if_true, hr s.lo.toNat (by omega), hr s.hi.toNat (by omega)]
    rw [if_pos ⟨by omega, fun _ => by omega⟩]
theorem wordO_ok {w : List UInt8} {x : Nat × Nat} (h : wordO w = some x) : x.1 ≤ x.2 ∧ x.2 < 4294967296 := by
  unfold wordO at h
  split at h
  · rename_i a b h1 h2
    split at h
    · rename_i hc
      injection h with h
      subst h
      exact ⟨hc.1, uint32_le h2⟩
    · cases h
  · cases h
def spanOf (x : Nat × Nat) (h : x.1 ≤ x.2 ∧ x.2 < 4294967296) : SpanV := ⟨x.1, x.2, by omega, by omega⟩
theorem spanOf_two (x : Nat × Nat) (h : x.1 ≤ x.2 ∧ x.2 < 4294967296) : (spanOf x h).two = x := by
  obtain ⟨a, b⟩ := x
  simp [spanOf, SpanV.two]
theorem readL_spans : ∀ {ws : List (List UInt8)} {l : List (Nat × Nat)}, readL ws = some l → ∃ L : List SpanV, l = L.map SpanV.two ∧ ∀ s ∈ L, s.lo ≤ s.hi
  | [], l, h => by
    injection h with h
    exact ⟨[], h.symm, by simp⟩
  | w :: r, l, h => by
    rw [readL] at h
    split at h
    · rename_i x l' h1 h2
      injection h with h
      subst h
      obtain ⟨L, hL, hk⟩ := readL_spans h2
      have hx := wordO_ok h1
      refine ⟨spanOf x hx :: L, ?_, ?_⟩
      · rw [List.map_cons, spanOf_two, hL]
      · intro s hs
        rcases List.mem_cons.1 hs with rfl | hs
        · show ((x.1 : Nat) : Int) ≤ x.2
          omega
        · exact hk s hs
    · cases h
def readD : List (List UInt8) → Option (List (Nat × Nat))
  | [] => some []
  | w :: r => match wordD w, readD r with
    | some x, some l => some (x :: l)
    | _, _ => none
theorem readD_L : ∀ {ws : List (List UInt8)} {l : List (Nat × Nat)}, readD ws = some l → readL ws = some l
  | [], l, h => h
  | w :: r, l, h => by
    rw [readD] at h
    split at h
    · rename_i x l' h1 h2
      rw [readL, wordD_O h1, readD_L h2]
      exact h
    · cases h
theorem readD_t : ∀ (F : List SpanV), (∀ s ∈ F, s.lo ≤ s.hi) → readD (F.map SpanV.t) = some (F.map SpanV.two)
  | [], _ => rfl
  | s :: r, h => by
    rw [List.map_cons, readD, wordD_t (h s (by simp)), readD_t r (fun x hx => h x (List.mem_cons_of_mem _ hx))]
    rfl
end Go.Proofs.YtlhafehhkjjchaaGreatDoor

/-
  Joined texts: HdText, At3, FtText, Fu, SpMath, SpMath2, SpText, SpMath3, SpText2, TailQ, Ft0, RtText, Rt1.
-/
import Derived.Test.YtakkgamhceignaaDoorMRoutesBack5
import Derived.Lib.ParseIntBCases
import Derived.Deep.DeepCutAuto
import Derived.Test.YtakkgamhceignaaDoorMRoutesBack4
import Derived.Test.YtakkgamhceignaaDoorMRoutesBack1
import Derived.Lib.ItoaMem
import Derived.Lib.AppendIntMem
import Derived.Lib.Walk
import Derived.BigCall
import Derived.BigGuard
import Derived.Lib.JoinLaws
import Derived.StillTail
import Derived.Deep.QuietTactic
import Derived.BigQuiet
import Derived.Lib.QuietBelow
/-
  The text of a header: plain laws; no walk.
-/
namespace Go.Proofs.YtakkgamhceignaaDoor
open Go Go.RowKit Go.Sort

theorem parseUintM_digits (M : Nat) (hM : M ≤ 18446744073709551615) : ∀ (l : List UInt8) (acc : Nat), l.all isDig = true → valD acc l ≤ M → Lib.parseUintM M acc l = .ok (valD acc l)
  | [], acc, _, _ => rfl
  | c :: r, acc, h, hv => by
    simp only [List.all_cons, Bool.and_eq_true] at h
    have hc := h.1
    unfold isDig at hc
    simp at hc
    have e : valD acc (c :: r) = valD (10 * acc + (c.toNat - 48)) r := rfl
    have hg := valD_ge r (10 * acc + (c.toNat - 48))
    rw [e] at hv
    unfold Lib.parseUintM
    rw [if_pos (by omega), if_neg (by omega), if_neg (by omega), e, show acc * 10 + (c.toNat - 48) = 10 * acc + (c.toNat - 48) by omega]
    exact parseUintM_digits M hM r _ h.2 hv
theorem uint_digits {B n : Nat} (hB : 2 ^ B - 1 ≤ 18446744073709551615) (hn : n ≤ 2 ^ B - 1) : Lib.parseUintB B (Lib.decDigits n) = .ok n := by
  unfold Lib.parseUintB
  rw [if_neg (decDigits_ne_nil n), parseUintM_digits _ hB _ _ (decDigits_all n) (by rw [decDigits_val]; exact hn), decDigits_val]
theorem uint16_digits {n : Nat} (h : n < 65536) : Lib.parseUintB 16 (Lib.decDigits n) = .ok n := uint_digits (by decide) (by rw [show (2 : Nat) ^ 16 - 1 = 65535 from rfl]; omega)
theorem uint8_digits {n : Nat} (h : n < 256) : Lib.parseUintB 8 (Lib.decDigits n) = .ok n := uint_digits (by decide) (by rw [show (2 : Nat) ^ 8 - 1 = 255 from rfl]; omega)
theorem uint16_le {l : List UInt8} {n : Nat} (h : Lib.parseUintB 16 l = .ok n) : n < 65536 := by
  have := Lib.parseUintB_le h
  have e : (2 : Nat) ^ 16 - 1 = 65535 := by decide
  omega
theorem uint8_le {l : List UInt8} {n : Nat} (h : Lib.parseUintB 8 l = .ok n) : n < 256 := by
  have := Lib.parseUintB_le h
  have e : (2 : Nat) ^ 8 - 1 = 255 := by decide
  omega
/-- An address and a port. -/
def endL (a p : Nat) : List UInt8 := (textA a).data.toList ++ 58 :: Lib.decDigits p
/-- A header's text. -/
def Hd.textL (h : Hd) : List UInt8 := endL h.src.toNat h.sp.toNat ++ 32 :: (endL h.dst.toNat h.dp.toNat ++ 32 :: Lib.decDigits h.proto.toNat)
def Hd.text (h : Hd) : ByteArray := ⟨h.textL.toArray⟩
theorem text_list (h : Hd) : h.text.data.toList = h.textL := rfl
theorem not_text {c : UInt8} (hc : isDig c = false) (h46 : c ≠ 46) (a : Nat) : c ∉ (textA a).data.toList := by
  show c ∉ Lib.join [Lib.decDigits (octet a 0), Lib.decDigits (octet a 1), Lib.decDigits (octet a 2), Lib.decDigits (octet a 3)] [46]
  rw [join_four]
  intro h
  simp only [List.mem_append, List.mem_cons] at h
  have hd := fun n => not_dig (decDigits_all n) hc
  rcases h with h | h | h | h | h | h | h
  · exact hd _ h
  · exact h46 h
  · exact hd _ h
  · exact h46 h
  · exact hd _ h
  · exact h46 h
  · exact hd _ h
theorem not_dec {c : UInt8} (hc : isDig c = false) (n : Nat) : c ∉ Lib.decDigits n := not_dig (decDigits_all n) hc
theorem not_end (a p : Nat) : (32 : UInt8) ∉ endL a p := by
  intro h
  unfold endL at h
  rw [List.mem_append, List.mem_cons] at h
  rcases h with h | h | h
  · exact not_text (by decide) (by decide) a h
  · exact absurd h (by decide)
  · exact not_dec (by decide) p h
theorem text_pieces (h : Hd) : pieces 32 h.textL = [endL h.src.toNat h.sp.toNat, endL h.dst.toNat h.dp.toNat, Lib.decDigits h.proto.toNat] := by
  unfold Hd.textL
  rw [pieces_cons _ (not_end _ _), pieces_cons _ (not_end _ _), pieces_none (not_dec (by decide) _)]
theorem end_cut (a p : Nat) : Lib.cut (endL a p) [58] = ((textA a).data.toList, Lib.decDigits p, true) := cut_hit1 _ (not_text (by decide) (by decide) a)
/-- An address and a port of a text. -/
def endO (l : List UInt8) : Option (Nat × Nat) :=
  match parseB (Lib.cut l [58]).1, Lib.parseUintB 16 (Lib.cut l [58]).2.1 with
  | some a, .ok p => some (a, p)
  | _, _ => none
/-- The header that a text is the text of. -/
def hpO (l : List UInt8) : Option Hd :=
  match pieces 32 l with
  | [p, q, r] =>
    match endO p, endO q, Lib.parseUintB 8 r with
    | some (a, m), some (b, n), .ok k => if (⟨a, b, k, m, n⟩ : Hd).textL = l then some ⟨a, b, k, m, n⟩ else none
    | _, _, _ => none
  | _ => none
theorem endO_end {a p : Nat} (ha : a < 4294967296) (hp : p < 65536) : endO (endL a p) = some (a, p) := by
  unfold endO
  rw [end_cut, parse_text a ha, uint16_digits hp]
theorem hpO_text {h : Hd} (ho : h.ok) : hpO h.textL = some h := by
  obtain ⟨s0, s1, d0, d1, p0, p1, a0, a1, b0, b1⟩ := ho
  unfold hpO
  rw [text_pieces]
  simp only [endO_end (a := h.src.toNat) (p := h.sp.toNat) (by omega) (by omega), endO_end (a := h.dst.toNat) (p := h.dp.toNat) (by omega) (by omega), uint8_digits (n := h.proto.toNat) (by omega)]
  have e : (⟨(h.src.toNat : Int), (h.dst.toNat : Int), (h.proto.toNat : Int), (h.sp.toNat : Int), (h.dp.toNat : Int)⟩ : Hd) = h := by
    apply hd_ext <;> simp only <;> omega
  rw [e, if_pos rfl]
theorem endO_lt {l : List UInt8} {a p : Nat} (h : endO l = some (a, p)) : a < 4294967296 ∧ p < 65536 := by
  unfold endO at h
  split at h
  · rename_i h1 h2
    injection h with h; injection h with h3 h4
    subst h3 h4
    exact ⟨parseB_lt h1, uint16_le h2⟩
  · cases h
theorem hpO_some {l : List UInt8} {h : Hd} (e : hpO l = some h) : h.ok ∧ h.textL = l := by
  unfold hpO at e
  split at e
  · split at e
    · rename_i a m b n k h1 h2 h3
      split at e
      · rename_i ht
        injection e with e
        subst e
        have l1 := endO_lt h1
        have l2 := endO_lt h2
        have l3 := uint8_le h3
        exact ⟨⟨by simp only; omega, by simp only; omega, by simp only; omega, by simp only; omega, by simp only; omega, by simp only; omega, by simp only; omega, by simp only; omega, by simp only; omega, by simp only; omega⟩, ht⟩
      · cases e
    · cases e
  · cases e
/-- What Parse answers. -/
def hpV (l : List UInt8) : Hd := (hpO l).getD ⟨0, 0, 0, 0, 0⟩
def hpE (l : List UInt8) : Int := match hpO l with | some _ => 0 | none => 4
theorem hp_none {l : List UInt8} (h : hpO l = none) : hpV l = ⟨0, 0, 0, 0, 0⟩ ∧ hpE l = 4 := by unfold hpV hpE; rw [h]; exact ⟨rfl, rfl⟩
theorem hp_some {l : List UInt8} {x : Hd} (h : hpO l = some x) : hpV l = x ∧ hpE l = 0 := by unfold hpV hpE; rw [h]; exact ⟨rfl, rfl⟩
end Go.Proofs.YtakkgamhceignaaDoor

/-
  Walks over the document's addresses: Read.
-/
namespace Go.Proofs.YtakkgamhceignaaDoor
open Go Go.RowKit Go.Sort

/-- What Read hands back. -/
def rdV (l : List UInt8) (m : Nat) : Int := match readB l m with | some n => n | none => -1
theorem rdV_none {l : List UInt8} {m : Nat} (h : readB l m = none) : rdV l m = -1 := by unfold rdV; rw [h]
theorem rdV_some {l : List UInt8} {m n : Nat} (h : readB l m = some n) : rdV l m = n := by unfold rdV; rw [h]
theorem dec_long : ∀ (k n : Nat), k + 1 < (Lib.decDigits n).length → 10 ^ (k + 1) ≤ n
  | 0, n, h => by
    rcases (show n < 10 ∨ 10 ≤ n by omega) with h1 | h1
    · rw [decDigits_small h1] at h; simp at h
    · simpa using h1
  | k + 1, n, h => by
    rcases (show n < 10 ∨ 10 ≤ n by omega) with h1 | h1
    · rw [decDigits_small h1] at h; simp at h
    · rw [decDigits_big (by omega), List.length_append] at h
      have := dec_long k (n / 10) (by simp at h; omega)
      rw [Nat.pow_succ]; omega
theorem readB_long {l : List UInt8} {m : Nat} (hm : m < 1000000000000) (h : 12 < l.length) : readB l m = none := by
  cases e : readB l m with
  | none => rfl
  | some n =>
    obtain ⟨h1, h2⟩ := readB_some.1 e
    have := dec_long 11 n (by rw [h1]; omega)
    omega
theorem readB_zero {l : List UInt8} {m : Nat} (h : 1 < l.length) (h0 : l.head? = some 48) : readB l m = none := by unfold readB; rw [if_pos (Or.inr (Or.inl ⟨h, h0⟩))]
theorem readB_nil (m : Nat) : readB [] m = none := by unfold readB; rw [if_pos (Or.inl rfl)]
theorem readB_bad {l : List UInt8} {m : Nat} {i : Nat} {c : UInt8} (h : l[i]? = some c) (hc : isDig c = false) : readB l m = none := by
  unfold readB
  rw [if_pos (Or.inr (Or.inr ?_))]
  cases e : l.all isDig with
  | false => rfl
  | true => have := List.all_eq_true.1 e c (List.mem_of_getElem? h); rw [hc] at this; cases this
theorem readB_good {l : List UInt8} {m : Nat} (h0 : l ≠ []) (hz : ¬ (1 < l.length ∧ l.head? = some 48)) (hall : l.all isDig = true) : readB l m = if valD 0 l ≤ m then some (valD 0 l) else none := by
  unfold readB
  rw [if_neg]
  rintro (h | h | h)
  · exact h0 h
  · exact hz h
  · rw [hall] at h; cases h
theorem valD_take {l : List UInt8} {i : Nat} {c : UInt8} (h : l[i]? = some c) : valD 0 (l.take (i + 1)) = 10 * valD 0 (l.take i) + (c.toNat - 48) := by
  rw [List.take_add_one, h, valD_append]
  rfl
theorem valD_lt : ∀ (k : Nat) (l : List UInt8), l.length ≤ k → l.all isDig = true → valD 0 l < 10 ^ k := by
  intro k
  induction k with
  | zero => intro l hl _; obtain rfl := List.length_eq_zero_iff.1 (Nat.le_zero.1 hl); decide
  | succ k ih =>
    intro l hl hall
    by_cases hne : l = []
    · subst hne; exact Nat.pow_pos (by decide)
    · obtain ⟨r, c, rfl⟩ : ∃ r c, l = r ++ [c] := ⟨l.dropLast, l.getLast hne, (List.dropLast_concat_getLast hne).symm⟩
      rw [valD_append]
      simp at hl hall
      have := ih r hl (by simpa using hall.1)
      have hc := (of_dig c hall.2).2
      simp only [valD, List.foldl_cons, List.foldl_nil] at this ⊢
      rw [Nat.pow_succ]; omega

end Go.Proofs.YtakkgamhceignaaDoor

/-
  The text of a rule, and the rule of a text: plain laws; no walk.
-/
namespace Go.Proofs.YtakkgamhceignaaDoor
open Go Go.RowKit Go.Sort

theorem pieces_joinL (c : UInt8) : ∀ (L : List (List UInt8)), L ≠ [] → (∀ x ∈ L, c ∉ x) → pieces c (Lib.join L [c]) = L
  | [], h, _ => absurd rfl h
  | [x], _, h => by rw [Lib.join_one]; exact pieces_none (h x (by simp))
  | x :: y :: r, _, h => by
    have e : Lib.join (x :: y :: r) [c] = x ++ c :: Lib.join (y :: r) [c] := by
      rw [Lib.join_cons, Lib.join_cons]
      simp [Lib.joinTail]
    rw [e, pieces_cons _ (h x (by simp)), pieces_joinL c (y :: r) (by simp) (fun z hz => h z (List.mem_cons_of_mem _ hz))]
def portT (lo hi : Int) : List UInt8 := Lib.decDigits lo.toNat ++ 45 :: Lib.decDigits hi.toNat
def permitW : List UInt8 := [112, 101, 114, 109, 105, 116]
def denyW : List UInt8 := [100, 101, 110, 121]
def anyW : List UInt8 := [97, 110, 121]
def whatT (b : Bool) : List UInt8 := if b then permitW else denyW
def protoT (p : Int) : List UInt8 := if 0 ≤ p then Lib.decDigits p.toNat else anyW
def prefT (a n : Int) : List UInt8 := (textP a.toNat n).data.toList
/-- A rule's words. -/
def RuleV.words (r : RuleV) : List (List UInt8) := [whatT r.permit, protoT r.proto, prefT r.sa r.sn, prefT r.da r.dn, portT r.sl r.sh, portT r.dl r.dh]
/-- A rule's text. -/
def RuleV.text (r : RuleV) : List UInt8 := Lib.join r.words [32]
theorem mayB_ok {r : RuleV} (h : mayB r = true) : -1 ≤ r.proto ∧ r.proto ≤ 255 ∧ chk r.sa r.sn = 0 ∧ chk r.da r.dn = 0 ∧ r.sl ≤ r.sh ∧ r.sh ≤ 65535 ∧ r.dl ≤ r.dh ∧ r.dh ≤ 65535 := by
  simpa [mayB, portsB, and_assoc] using h
theorem prefT_nat {a n : Int} (h : 0 ≤ n) : prefT a n = (textA a.toNat).data.toList ++ 47 :: Lib.decDigits n.toNat := by
  obtain ⟨k, rfl⟩ := Int.eq_ofNat_of_zero_le h
  unfold prefT
  rw [textP_list, Int.toNat_natCast]
theorem prefT_no {a n : Int} (h : 0 ≤ n) : (32 : UInt8) ∉ prefT a n := by
  rw [prefT_nat h]
  intro hm
  rw [List.mem_append, List.mem_cons] at hm
  rcases hm with hm | hm | hm
  · exact not_text (by decide) (by decide) _ hm
  · exact absurd hm (by decide)
  · exact not_dec (by decide) _ hm
theorem portT_no (lo hi : Int) : (32 : UInt8) ∉ portT lo hi := by
  unfold portT
  intro hm
  rw [List.mem_append, List.mem_cons] at hm
  rcases hm with hm | hm | hm
  · exact not_dec (by decide) _ hm
  · exact absurd hm (by decide)
  · exact not_dec (by decide) _ hm
theorem words_no {r : RuleV} (h : mayB r = true) : ∀ x ∈ r.words, (32 : UInt8) ∉ x := by
  obtain ⟨_, _, h3, h4, _⟩ := mayB_ok h
  have k3 := chk_ok h3
  have k4 := chk_ok h4
  intro x hx
  simp only [RuleV.words, List.mem_cons, List.not_mem_nil, or_false] at hx
  rcases hx with rfl | rfl | rfl | rfl | rfl | rfl
  · unfold whatT; split <;> decide
  · unfold protoT; split
    · exact not_dec (by decide) _
    · decide
  · exact prefT_no k3.1
  · exact prefT_no k4.1
  · exact portT_no _ _
  · exact portT_no _ _
theorem text_words {r : RuleV} (h : mayB r = true) : pieces 32 r.text = r.words := pieces_joinL 32 _ (by simp [RuleV.words]) (words_no h)
/-- What is read of the words. -/
def permR (w : List UInt8) : Bool := decide (w = permitW)
def protoR (w : List UInt8) : Option Int := if w = anyW then some (-1) else match Lib.parseUintB 8 w with | .ok n => some n | _ => none
def protoD (w : List UInt8) : Option Int := if w = anyW then some (-1) else if rdV w 255 < 0 then none else some (rdV w 255)
def endsR (w : List UInt8) : Int × Int :=
  match Lib.parseUintB 16 (Lib.cut w [45]).1, Lib.parseUintB 16 (Lib.cut w [45]).2.1 with
  | .ok a, .ok b => (a, b)
  | _, _ => (1, 0)
theorem permR_what (b : Bool) : permR (whatT b) = b := by cases b <;> decide
theorem dec_any (n : Nat) : Lib.decDigits n ≠ anyW := by
  intro h
  have := decDigits_all n
  rw [h] at this
  exact absurd this (by decide)
theorem protoR_T {p : Int} (h0 : -1 ≤ p) (h1 : p ≤ 255) : protoR (protoT p) = some p := by
  unfold protoR protoT
  by_cases h : 0 ≤ p
  · rw [if_pos h, if_neg (dec_any _), uint8_digits (by omega)]
    simp; omega
  · rw [if_neg h, if_pos rfl]
    simp; omega
theorem protoD_T {p : Int} (h0 : -1 ≤ p) (h1 : p ≤ 255) : protoD (protoT p) = some p := by
  unfold protoD protoT
  by_cases h : 0 ≤ p
  · have e : rdV (Lib.decDigits p.toNat) 255 = p := by
      rw [rdV_some (readB_some.2 ⟨rfl, by omega⟩)]
      omega
    rw [if_pos h, if_neg (dec_any _), e, if_neg (by omega)]
  · rw [if_neg h, if_pos rfl]
    simp; omega
theorem endsR_T {lo hi : Int} (h0 : 0 ≤ lo) (h1 : lo ≤ hi) (h2 : hi ≤ 65535) : endsR (portT lo hi) = (lo, hi) := by
  unfold endsR portT
  rw [cut_hit1 _ (not_dec (by decide) _)]
  simp only [uint16_digits (n := lo.toNat) (by omega), uint16_digits (n := hi.toNat) (by omega)]
  rw [Int.toNat_of_nonneg h0, Int.toNat_of_nonneg (by omega)]
theorem endsR_lt (w : List UInt8) : 0 ≤ (endsR w).1 ∧ (endsR w).1 < 65536 ∧ 0 ≤ (endsR w).2 ∧ (endsR w).2 < 65536 := by
  unfold endsR
  split
  · rename_i a b h1 h2
    have := uint16_le h1
    have := uint16_le h2
    dsimp only
    omega
  · decide
/-- What the document's words read: the numbers, and whether they are any. -/
def portsD (w : List UInt8) : (Int × Int) × Bool :=
  if (Lib.cut w [45]).2.2 = true then ((rdV (Lib.cut w [45]).1 65535 % 4294967296, rdV (Lib.cut w [45]).2.1 65535 % 4294967296), decide (0 ≤ rdV (Lib.cut w [45]).1 65535) && decide (0 ≤ rdV (Lib.cut w [45]).2.1 65535)) else ((0, 0), false)
theorem portsD_T {lo hi : Int} (h0 : 0 ≤ lo) (h1 : lo ≤ hi) (h2 : hi ≤ 65535) : portsD (portT lo hi) = ((lo, hi), true) := by
  unfold portsD portT
  rw [cut_hit1 _ (not_dec (by decide) _)]
  have e1 : rdV (Lib.decDigits lo.toNat) 65535 = lo := by
    rw [rdV_some (readB_some.2 ⟨rfl, by omega⟩)]
    omega
  have e2 : rdV (Lib.decDigits hi.toNat) 65535 = hi := by
    rw [rdV_some (readB_some.2 ⟨rfl, by omega⟩)]
    omega
  simp only [e1, e2, if_true]
  rw [Int.emod_eq_of_lt h0 (by omega), Int.emod_eq_of_lt (by omega) (by omega)]
  simp
  omega
theorem rdV_le (l : List UInt8) (m : Nat) : -1 ≤ rdV l m ∧ rdV l m ≤ m := by
  unfold rdV
  split
  · rename_i n h
    have := readB_le h
    omega
  · omega
theorem portsD_lt (w : List UInt8) : 0 ≤ (portsD w).1.1 ∧ (portsD w).1.1 < 4294967296 ∧ 0 ≤ (portsD w).1.2 ∧ (portsD w).1.2 < 4294967296 := by
  unfold portsD
  split
  · dsimp only
    omega
  · decide
theorem ppO_T {a n : Int} (h0 : 0 ≤ a) (h1 : a < 4294967296) (h : chk a n = 0) : ppA (prefT a n) = a ∧ ppN (prefT a n) = n ∧ ppE (prefT a n) = 0 := by
  obtain ⟨k0, k1, _⟩ := chk_ok h
  have e := prefix_text a.toNat n.toNat (by omega) (by omega)
  rw [Int.toNat_of_nonneg k0] at e
  have hy := pp_yes (l := prefT a n) (a := a.toNat) (n := n.toNat) e (by rw [Int.toNat_of_nonneg k0, Int.toNat_of_nonneg h0]; exact h)
  rw [hy.1, hy.2.1, hy.2.2]
  omega
theorem ppA_lt (l : List UInt8) : 0 ≤ ppA l ∧ ppA l < 4294967296 := by
  rcases pp_cases l with h | ⟨a, n, _, h2, _, h4, _⟩
  · unfold ppA ppE at *
    split
    · omega
    · rename_i a n hO
      rw [hO] at h
      dsimp only at h
      rw [if_neg h]
      omega
  · rw [h2]; omega
theorem ppN_range (l : List UInt8) : 0 ≤ ppN l ∧ ppN l ≤ 32 := by
  rcases pp_cases l with h | ⟨a, n, _, _, h3, _, h5, _⟩
  · unfold ppN ppE at *
    split
    · omega
    · rename_i a n hO
      rw [hO] at h
      dsimp only at h
      rw [if_neg h]
      omega
  · rw [h3]; omega
theorem rule_ext {r q : RuleV} (h0 : r.permit = q.permit) (h1 : r.proto = q.proto) (h2 : r.sa = q.sa) (h3 : r.sn = q.sn) (h4 : r.da = q.da) (h5 : r.dn = q.dn) (h6 : r.sl = q.sl) (h7 : r.sh = q.sh) (h8 : r.dl = q.dl) (h9 : r.dh = q.dh) : r = q := by
  cases r; cases q; simp_all
/-- What the words of a rule's text are read to. -/
structure ReadsTo (r : RuleV) (p0 p1 p2 p3 p4 p5 : List UInt8) : Prop where
  permit : permR p0 = r.permit
  proto : protoR p1 = some r.proto
  protoD : protoD p1 = some r.proto
  sa : ppA p2 = r.sa
  sn : ppN p2 = r.sn
  se : ppE p2 = 0
  da : ppA p3 = r.da
  dn : ppN p3 = r.dn
  de : ppE p3 = 0
  sp : endsR p4 = (r.sl, r.sh)
  dp : endsR p5 = (r.dl, r.dh)
  spD : portsD p4 = ((r.sl, r.sh), true)
  dpD : portsD p5 = ((r.dl, r.dh), true)
theorem reads_to {r : RuleV} {l p0 p1 p2 p3 p4 p5 : List UInt8} (h : mayB r = true) (hl : r.text = l) (hp : pieces 32 l = [p0, p1, p2, p3, p4, p5]) : ReadsTo r p0 p1 p2 p3 p4 p5 := by
  have hw := text_words h
  rw [hl, hp] at hw
  unfold RuleV.words at hw
  injection hw with e0 hw
  injection hw with e1 hw
  injection hw with e2 hw
  injection hw with e3 hw
  injection hw with e4 hw
  injection hw with e5 hw
  subst e0 e1 e2 e3 e4 e5
  obtain ⟨k0, k1, k2, k3, k4, k5, k6, k7⟩ := mayB_ok h
  have a1 := ppO_T r.hsa.1 r.hsa.2 k2
  have a2 := ppO_T r.hda.1 r.hda.2 k3
  exact ⟨permR_what _, protoR_T k0 k1, protoD_T k0 k1, a1.1, a1.2.1, a1.2.2, a2.1, a2.2.1, a2.2.2, endsR_T r.hsl.1 k4 k5, endsR_T r.hdl.1 k6 k7, portsD_T r.hsl.1 k4 k5, portsD_T r.hdl.1 k6 k7⟩
theorem reads_len {r : RuleV} {l : List UInt8} (h : mayB r = true) (hl : r.text = l) : (pieces 32 l).length = 6 := by
  rw [← hl, text_words h]
  rfl
theorem six {α : Type} {L : List α} (h : L.length = 6) : ∃ a b c d e f, L = [a, b, c, d, e, f] := by
  match L, h with
  | [a, b, c, d, e, f], _ => exact ⟨a, b, c, d, e, f, rfl⟩
theorem rule_inj {r q : RuleV} (h : mayB r = true) (hq : mayB q = true) (e : r.text = q.text) : r = q := by
  obtain ⟨p0, p1, p2, p3, p4, p5, hp⟩ := six (reads_len h rfl)
  have a := reads_to h rfl hp
  have b := reads_to hq e.symm hp
  have s1 := a.sp.symm.trans b.sp
  have s2 := a.dp.symm.trans b.dp
  injection s1 with s1 s3
  injection s2 with s2 s4
  have e1 := a.proto.symm.trans b.proto
  injection e1 with e1
  exact rule_ext (a.permit.symm.trans b.permit) e1 (a.sa.symm.trans b.sa) (a.sn.symm.trans b.sn) (a.da.symm.trans b.da) (a.dn.symm.trans b.dn) s1 s3 s2 s4
open Classical in
/-- The rule that a text is the text of. -/
noncomputable def frO (l : List UInt8) : Option RuleV := if h : ∃ r : RuleV, mayB r = true ∧ r.text = l then some h.choose else none
theorem frO_text {r : RuleV} (h : mayB r = true) : frO r.text = some r := by
  have he : ∃ q : RuleV, mayB q = true ∧ q.text = r.text := ⟨r, h, rfl⟩
  unfold frO
  rw [dif_pos he, rule_inj he.choose_spec.1 h he.choose_spec.2]
theorem frO_some {l : List UInt8} {r : RuleV} (h : frO l = some r) : mayB r = true ∧ r.text = l := by
  unfold frO at h
  split at h
  · rename_i he
    injection h with h
    rw [← h]
    exact he.choose_spec
  · cases h
theorem frO_no {l : List UInt8} (h : ∀ r : RuleV, mayB r = true → r.text = l → False) : frO l = none := by
  cases e : frO l with
  | none => rfl
  | some r => exact (h r (frO_some e).1 (frO_some e).2).elim
theorem frO_len {l : List UInt8} (h : (pieces 32 l).length ≠ 6) : frO l = none := frO_no fun _ h1 h2 => h (reads_len h1 h2)
/-- A rule as the program's words, or the document's, were read to. -/
structure Cand (c : RuleV) (p0 p2 p3 : List UInt8) : Prop where
  permit : c.permit = permR p0
  sa : c.sa = ppA p2
  sn : c.sn = ppN p2
  da : c.da = ppA p3
  dn : c.dn = ppN p3
theorem frO_cand {l p0 p1 p2 p3 p4 p5 : List UInt8} {c : RuleV} (hp : pieces 32 l = [p0, p1, p2, p3, p4, p5]) (hc : Cand c p0 p2 p3) (h1 : protoR p1 = some c.proto) (h2 : endsR p4 = (c.sl, c.sh)) (h3 : endsR p5 = (c.dl, c.dh)) :
    frO l = if ppE p2 = 0 ∧ ppE p3 = 0 ∧ mayB c = true ∧ c.text = l then some c else none := by
  split
  · rename_i h
    rw [← h.2.2.2]
    exact frO_text h.2.2.1
  · rename_i h
    refine frO_no fun r hr ht => h ?_
    have a := reads_to hr ht hp
    have s1 := a.sp.symm.trans h2
    have s2 := a.dp.symm.trans h3
    injection s1 with s1 s3
    injection s2 with s2 s4
    have e1 := a.proto.symm.trans h1
    injection e1 with e1
    obtain rfl : r = c := rule_ext (a.permit.symm.trans hc.permit.symm) e1 (a.sa.symm.trans hc.sa.symm) (a.sn.symm.trans hc.sn.symm) (a.da.symm.trans hc.da.symm) (a.dn.symm.trans hc.dn.symm) s1 s3 s2 s4
    exact ⟨a.se, a.de, hr, ht⟩
theorem frO_candD {l p0 p1 p2 p3 p4 p5 : List UInt8} {c : RuleV} (hp : pieces 32 l = [p0, p1, p2, p3, p4, p5]) (hc : Cand c p0 p2 p3) (h1 : protoD p1 = some c.proto) {u v : Bool} (h2 : portsD p4 = ((c.sl, c.sh), u)) (h3 : portsD p5 = ((c.dl, c.dh), v)) :
    frO l = if ppE p2 = 0 ∧ ppE p3 = 0 ∧ u = true ∧ v = true ∧ mayB c = true ∧ c.text = l then some c else none := by
  split
  · rename_i h
    rw [← h.2.2.2.2.2]
    exact frO_text h.2.2.2.2.1
  · rename_i h
    refine frO_no fun r hr ht => h ?_
    have a := reads_to hr ht hp
    have s1 := a.spD.symm.trans h2
    have s2 := a.dpD.symm.trans h3
    injection s1 with s1 u1
    injection s1 with s1 s3
    injection s2 with s2 u2
    injection s2 with s2 s4
    have e1 := a.protoD.symm.trans h1
    injection e1 with e1
    obtain rfl : r = c := rule_ext (a.permit.symm.trans hc.permit.symm) e1 (a.sa.symm.trans hc.sa.symm) (a.sn.symm.trans hc.sn.symm) (a.da.symm.trans hc.da.symm) (a.dn.symm.trans hc.dn.symm) s1 s3 s2 s4
    exact ⟨a.se, a.de, u1.symm, u2.symm, hr, ht⟩
theorem frO_proto {l p0 p1 p2 p3 p4 p5 : List UInt8} (hp : pieces 32 l = [p0, p1, p2, p3, p4, p5]) (h1 : protoR p1 = none) : frO l = none := frO_no fun r hr ht => by
  have := (reads_to hr ht hp).proto
  rw [h1] at this
  cases this
theorem frO_protoD {l p0 p1 p2 p3 p4 p5 : List UInt8} (hp : pieces 32 l = [p0, p1, p2, p3, p4, p5]) (h1 : protoD p1 = none) : frO l = none := frO_no fun r hr ht => by
  have := (reads_to hr ht hp).protoD
  rw [h1] at this
  cases this
/-- What Parse answers. -/
noncomputable def frV (l : List UInt8) : RuleV := (frO l).getD default
noncomputable def frE (l : List UInt8) : Int := if (frO l).isSome then 0 else 4
theorem fr_none {l : List UInt8} (h : frO l = none) : frV l = default ∧ frE l = 4 := by unfold frV frE; rw [h]; exact ⟨rfl, rfl⟩
theorem fr_some {l : List UInt8} {r : RuleV} (h : frO l = some r) : frV l = r ∧ frE l = 0 := by unfold frV frE; rw [h]; exact ⟨rfl, rfl⟩
/-- What Text answers. -/
def RuleV.told (r : RuleV) : List UInt8 := if mayB r then r.text else []
def RuleV.toldE (r : RuleV) : Int := if mayB r then 0 else 121
theorem told_yes {r : RuleV} (h : mayB r = true) : r.told = r.text ∧ r.toldE = 0 := by unfold RuleV.told RuleV.toldE; rw [if_pos h, if_pos h]; exact ⟨rfl, rfl⟩
theorem told_no {r : RuleV} (h : mayB r = false) : r.told = [] ∧ r.toldE = 121 := by unfold RuleV.told RuleV.toldE; rw [h]; exact ⟨rfl, rfl⟩
def RuleV.agg (r : RuleV) : Value := .agg r.enc.toArray
end Go.Proofs.YtakkgamhceignaaDoor

/-
  strconv.FormatUint at base 10: the number's decimal digits.
-/
namespace Go.Proofs.YtakkgamhceignaaDoor
open Go Go.RowKit Go.Lib Go.Sort

set_option maxRecDepth 100000 in
set_option maxHeartbeats 4000000 in
theorem fmtInner_any (u : Nat) (hu64 : u < 18446744073709551616) (w : World) (htab : Lib.TabIs Tryd.prog w "internal/strconv.uint64pow10" .u64 Lib.pow10Tab) :
    Calls Tryd.prog 48 #[.int .u64 u, .int .i64 10] w fun e w' => e = .returned (.string ⟨(Lib.decDigits u).toArray⟩) ∧ ∃ k os, w' = grow (w.drewN k) os := by
  by_cases hs : u < 100
  · have hsm := Tryd.internal_strconv_small u hs w
    have hI : (u : Int) < 100 := by omega
    go_enter Tryd.func48, Tryd.ntmps48
    go_wp2_with fail
    refine hsm.mono ?_
    rintro e w' ⟨rfl, rfl⟩
    go_wp2
    go_ret
    exact ⟨rfl, 0, #[], by simp [World.drewN_zero]⟩
  · have hI : ¬ (u : Int) < 100 := by omega
    have hu1 : 1 ≤ u := by omega
    have hnd20 : Lib.nDigits u ≤ 20 := by have := Lib.numDigits_eq u hu1 hu64; split at this <;> omega
    have hal : Tryd.prog.arrayLen 126 = 24 := by kernel_rfl
    have hsl : ∀ W, (Instr.sliceAt 126 (.pointer (some ⟨w.heap.size, 0, none⟩)) none (some (.int .i64 (Lib.nDigits u : Int))) none).run Tryd.prog W = .ok (.slice (some ⟨w.heap.size, 0, none⟩) (Lib.nDigits u) 24) W := fun W => by
      rw [run_sliceAt_array_h W 126 ⟨w.heap.size, 0, none⟩ (by kernel_rfl) .i64 (Lib.nDigits u : Int) (by omega) (by rw [hal]; omega)]
      go_simp
    have hH0 := Lib.holds_zero0 w 126 (Lib.nDigits u) (by omega)
    have hfmt := Tryd.internal_strconv_formatBase10 w.heap.size 0 24 u (Array.replicate (Lib.nDigits u) 0) (w.alloc (.cells Lib.zeros24 126)) hH0 (by rw [Array.size_replicate]; exact Lib.lt_pow_nDigits u) hu64 (by rw [Array.size_replicate]; omega)
    rw [Array.size_replicate] at hfmt
    have HH0 := Lib.hid hH0
    have hnum := Tryd.internal_strconv_numDigits u hu1 hu64 (w.alloc (.cells Lib.zeros24 126)) (Lib.tabIs_alloc htab _)
    clear hH0 hal
    go_enter Tryd.func48, Tryd.ntmps48
    go_wp2_with fail
    refine hnum.mono ?_
    rintro e w' ⟨rfl, rfl⟩
    go_wp2_with fail
    refine hfmt.mono ?_
    rintro e w' ⟨rfl, k, v', dk, rfl, hF⟩
    have hcv : (convert 91 9 (.slice (some ⟨w.heap.size, 0, none⟩) (Lib.nDigits u) 24)).run Tryd.prog ((putRow (fun (b : UInt8) => Value.int .u8 (b.toNat : Int)) (w.alloc (.cells Lib.zeros24 126)) w.heap.size 0 dk).drewN k) = .ok (.string ⟨(Lib.decDigits u).toArray⟩) ((putRow (fun (b : UInt8) => Value.int .u8 (b.toNat : Int)) (w.alloc (.cells Lib.zeros24 126)) w.heap.size 0 dk).drewN k) := by
      have h := run_convert_bytes_back (P := Tryd.prog) ((putRow (fun (b : UInt8) => Value.int .u8 (b.toNat : Int)) (w.alloc (.cells Lib.zeros24 126)) w.heap.size 0 dk).drewN k) 91 9 5 ⟨w.heap.size, 0, none⟩ 24 (Lib.decDigits u) Tryd.underlying91 Tryd.underlying5 Tryd.underlying9 (fun j hj => by
        rw [Lib.row_is_numeral hF j hj, Lib.add_plain, World.cell?_drewN]
        exact cell?_putRow (fun (b : UInt8) => Value.int .u8 (b.toNat : Int)) _ w.heap.size 0 _ dk HH0.out (by rw [hF.size, Array.size_replicate]) j (by rw [hF.size]; rw [Lib.decDigits_length] at hj; exact hj))
      rw [Lib.decDigits_length] at h
      exact h
    go_wp2
    go_ret
    obtain ⟨os, eo⟩ := Lib.fin_at w (.cells Lib.zeros24 126) dk k 0
    exact ⟨rfl, k, os, eo⟩
set_option maxRecDepth 100000 in
set_option maxHeartbeats 1000000 in
theorem fmtUint_any (u : Nat) (hu64 : u < 18446744073709551616) (w : World) (hE : Env w) :
    Calls Tryd.prog 19 #[.int .u64 u, .int .i64 10] w fun e w' => e = .returned (.string ⟨(Lib.decDigits u).toArray⟩) ∧ Below w.heap.size w w' := by
  go_enter Tryd.func19, Tryd.ntmps19
  go_wp2_with fail
  refine (fmtInner_any u hu64 w hE.tab).mono ?_
  rintro e w' ⟨rfl, h⟩
  go_wp2
  go_ret
  exact ⟨rfl, below_of_grow h⟩
end Go.Proofs.YtakkgamhceignaaDoor

/-
  Sets of numbers as spans: the normal form is told by its members. No program in sight.
-/
namespace Go.Proofs.YtakkgamhceignaaDoor

structure SpanV where
  lo : Int
  hi : Int
  hlo : 0 ≤ lo ∧ lo < 4294967296
  hhi : 0 ≤ hi ∧ hi < 4294967296
instance : Inhabited SpanV := ⟨⟨0, 0, by omega, by omega⟩⟩
theorem SpanV.eq {s t : SpanV} (h1 : s.lo = t.lo) (h2 : s.hi = t.hi) : s = t := by
  cases s; cases t; simp_all
def SpanV.inB (s : SpanV) (x : Int) : Bool := decide (s.lo ≤ x) && decide (x ≤ s.hi)
def hasB (L : List SpanV) (x : Int) : Bool := L.any fun s => s.inB x
theorem hasB_iff {L : List SpanV} {x : Int} : hasB L x = true ↔ ∃ s ∈ L, s.lo ≤ x ∧ x ≤ s.hi := by
  simp [hasB, SpanV.inB]
/-- The normal form: rising, none empty, none touching the next. -/
def NF : List SpanV → Prop
  | [] => True
  | s :: r => s.lo ≤ s.hi ∧ (∀ t ∈ r, s.hi + 1 < t.lo) ∧ NF r
theorem NF.ok {L : List SpanV} (h : NF L) : ∀ s ∈ L, s.lo ≤ s.hi := by
  induction L with
  | nil => intro s hs; simp at hs
  | cons t r ih =>
    intro s hs
    rcases List.mem_cons.1 hs with rfl | hs
    · exact h.1
    · exact ih h.2.2 s hs
theorem NF.head {s : SpanV} {r : List SpanV} (h : NF (s :: r)) {x : Int} (hx : hasB (s :: r) x = true) : s.lo ≤ x := by
  obtain ⟨t, ht, h1, h2⟩ := hasB_iff.1 hx
  rcases List.mem_cons.1 ht with rfl | ht
  · exact h1
  · have := h.2.1 t ht
    have := h.1
    omega
theorem NF.unique : ∀ {A B : List SpanV}, NF A → NF B → (∀ x, hasB A x = hasB B x) → A = B
  | [], [], _, _, _ => rfl
  | [], t :: q, _, hB, h => by
    have := h t.lo
    have h2 : hasB (t :: q) t.lo = true := hasB_iff.2 ⟨t, List.mem_cons_self .., by omega, hB.1⟩
    rw [h2] at this
    simp [hasB] at this
  | s :: r, [], hA, _, h => by
    have := h s.lo
    have h2 : hasB (s :: r) s.lo = true := hasB_iff.2 ⟨s, List.mem_cons_self .., by omega, hA.1⟩
    rw [h2] at this
    simp [hasB] at this
  | s :: r, t :: q, hA, hB, h => by
    have a1 : hasB (s :: r) s.lo = true := hasB_iff.2 ⟨s, List.mem_cons_self .., by omega, hA.1⟩
    have b1 : hasB (t :: q) t.lo = true := hasB_iff.2 ⟨t, List.mem_cons_self .., by omega, hB.1⟩
    have l1 := hB.head ((h s.lo).symm.trans a1)
    have l2 := hA.head ((h t.lo).trans b1)
    have hlo : s.lo = t.lo := by omega
    have key : ∀ {s t : SpanV} {r q : List SpanV}, NF (s :: r) → NF (t :: q) → s.lo = t.lo → (∀ x, hasB (s :: r) x = hasB (t :: q) x) → ¬ s.hi < t.hi := by
      intro s t r q hA hB hlo h hlt
      have h1 : hasB (t :: q) (s.hi + 1) = true := hasB_iff.2 ⟨t, List.mem_cons_self .., by have := hA.1; omega, by omega⟩
      obtain ⟨u, hu, h2, h3⟩ := hasB_iff.1 ((h _).trans h1)
      rcases List.mem_cons.1 hu with rfl | hu
      · omega
      · have := hA.2.1 u hu; omega
    have n1 := key hA hB hlo h
    have n2 := key hB hA hlo.symm (fun x => (h x).symm)
    have e : s = t := SpanV.eq hlo (by omega)
    subst e
    have rest : ∀ {s : SpanV} {r : List SpanV}, NF (s :: r) → ∀ x, hasB r x = (hasB (s :: r) x && decide (s.hi < x)) := by
      intro s r hA x
      rw [Bool.eq_iff_iff, Bool.and_eq_true, decide_eq_true_eq, hasB_iff, hasB_iff]
      constructor
      · rintro ⟨u, hu, h1, h2⟩
        have := hA.2.1 u hu
        exact ⟨⟨u, List.mem_cons_of_mem _ hu, h1, h2⟩, by omega⟩
      · rintro ⟨⟨u, hu, h1, h2⟩, h3⟩
        rcases List.mem_cons.1 hu with rfl | hu
        · omega
        · exact ⟨u, hu, h1, h2⟩
    rw [NF.unique hA.2.2 hB.2.2 (fun x => by rw [rest hA x, rest hB x, h x])]

end Go.Proofs.YtakkgamhceignaaDoor

/-
  Sets of numbers as spans: the list in normal form with given members; one step of the merging. No program in sight.
-/
namespace Go.Proofs.YtakkgamhceignaaDoor

open Classical in
/-- The normal form of a set of numbers (if it has one). -/
noncomputable def theSet (P : Int → Bool) : List SpanV := if h : ∃ R : List SpanV, NF R ∧ ∀ x, hasB R x = P x then h.choose else []
theorem theSet_eq {P : Int → Bool} {R : List SpanV} (h : NF R) (hm : ∀ x, hasB R x = P x) : theSet P = R := by
  have he : ∃ R : List SpanV, NF R ∧ ∀ x, hasB R x = P x := ⟨R, h, hm⟩
  unfold theSet
  rw [dif_pos he]
  exact NF.unique he.choose_spec.1 h (fun x => (he.choose_spec.2 x).trans (hm x).symm)
theorem inB_iff {s : SpanV} {x : Int} : s.inB x = true ↔ s.lo ≤ x ∧ x ≤ s.hi := by simp [SpanV.inB]
theorem hasB_append (A B : List SpanV) (x : Int) : hasB (A ++ B) x = (hasB A x || hasB B x) := by simp [hasB]
theorem hasB_one (s : SpanV) (x : Int) : hasB [s] x = s.inB x := by simp [hasB]
theorem hasB_perm {A B : List SpanV} (h : A.Perm B) (x : Int) : hasB A x = hasB B x := by
  rw [Bool.eq_iff_iff, hasB_iff, hasB_iff]
  constructor
  · rintro ⟨s, hs, h1⟩; exact ⟨s, h.mem_iff.1 hs, h1⟩
  · rintro ⟨s, hs, h1⟩; exact ⟨s, h.mem_iff.2 hs, h1⟩
theorem NF.snoc : ∀ {A : List SpanV} {t : SpanV}, NF (A ++ [t]) ↔ NF A ∧ t.lo ≤ t.hi ∧ ∀ a ∈ A, a.hi + 1 < t.lo
  | [], t => by simp [NF]
  | s :: A, t => by
    have ih := @NF.snoc A t
    show (s.lo ≤ s.hi ∧ (∀ u ∈ A ++ [t], s.hi + 1 < u.lo) ∧ NF (A ++ [t])) ↔ _
    rw [ih]
    constructor
    · rintro ⟨h1, h2, h3, h4, h5⟩
      refine ⟨⟨h1, fun u hu => h2 u (List.mem_append_left _ hu), h3⟩, h4, fun a ha => ?_⟩
      rcases List.mem_cons.1 ha with rfl | ha
      · exact h2 t (List.mem_append_right _ (List.mem_singleton.2 rfl))
      · exact h5 a ha
    · rintro ⟨⟨h1, h2, h3⟩, h4, h5⟩
      refine ⟨h1, fun u hu => ?_, h3, h4, fun a ha => h5 a (List.mem_cons_of_mem _ ha)⟩
      rcases List.mem_append.1 hu with hu | hu
      · exact h2 u hu
      · obtain rfl := List.mem_singleton.1 hu
        exact h5 s (List.mem_cons_self ..)
/-- A span that reaches farther. -/
def SpanV.reach (t s : SpanV) : SpanV := ⟨t.lo, max t.hi s.hi, t.hlo, by have := t.hhi; have := s.hhi; omega⟩
theorem merge_in {A : List SpanV} {t s : SpanV} (h : NF (A ++ [t])) (hs : s.lo ≤ s.hi) (hts : t.lo ≤ s.lo) (hm : s.lo ≤ t.hi + 1) :
    NF (A ++ [t.reach s]) ∧ ∀ x, hasB (A ++ [t.reach s]) x = (hasB (A ++ [t]) x || s.inB x) := by
  obtain ⟨h1, h2, h3⟩ := NF.snoc.1 h
  refine ⟨NF.snoc.2 ⟨h1, ?_, h3⟩, fun x => ?_⟩
  · show t.lo ≤ max t.hi s.hi
    omega
  · rw [hasB_append, hasB_append, hasB_one, hasB_one, Bool.or_assoc]
    congr 1
    rw [Bool.eq_iff_iff, Bool.or_eq_true, inB_iff, inB_iff, inB_iff]
    show (t.lo ≤ x ∧ x ≤ max t.hi s.hi) ↔ _
    omega
theorem merge_new {A : List SpanV} {t s : SpanV} (h : NF (A ++ [t])) (hs : s.lo ≤ s.hi) (hm : t.hi + 1 < s.lo) : NF (A ++ [t] ++ [s]) := by
  obtain ⟨h1, h2, h3⟩ := NF.snoc.1 h
  refine NF.snoc.2 ⟨h, hs, fun a ha => ?_⟩
  rcases List.mem_append.1 ha with ha | ha
  · have := h3 a ha; omega
  · obtain rfl := List.mem_singleton.1 ha
    exact hm

end Go.Proofs.YtakkgamhceignaaDoor

/-
  The text of a set of numbers, and what is read of a text: no program in sight.
-/
namespace Go.Proofs.YtakkgamhceignaaDoor

def SpanV.t (s : SpanV) : List UInt8 := if s.lo = s.hi then Lib.decDigits s.lo.toNat else Lib.decDigits s.lo.toNat ++ 45 :: Lib.decDigits s.hi.toNat
def joinC : List (List UInt8) → List UInt8
  | [] => []
  | [x] => x
  | x :: y :: r => x ++ 44 :: joinC (y :: r)
def setT (F : List SpanV) : List UInt8 := if F = [] then [45] else joinC (F.map SpanV.t)
theorem t_comma (s : SpanV) : (44 : UInt8) ∉ s.t := by
  unfold SpanV.t
  split
  · exact not_dec (by decide) _
  · intro h
    rw [List.mem_append, List.mem_cons] at h
    rcases h with h | h | h
    · exact not_dec (by decide) _ h
    · exact absurd h (by decide)
    · exact not_dec (by decide) _ h
theorem pieces_join : ∀ (L : List (List UInt8)), L ≠ [] → (∀ x ∈ L, (44 : UInt8) ∉ x) → pieces 44 (joinC L) = L
  | [], h, _ => absurd rfl h
  | [x], _, h => pieces_none (h x (by simp))
  | x :: y :: r, _, h => by
    rw [joinC, pieces_cons _ (h x (by simp)), pieces_join (y :: r) (by simp) (fun z hz => h z (List.mem_cons_of_mem _ hz))]
theorem setT_pieces {F : List SpanV} (h : F ≠ []) : pieces 44 (setT F) = F.map SpanV.t := by
  unfold setT
  rw [if_neg h]
  exact pieces_join _ (by simpa using h) (fun x hx => by
    obtain ⟨s, _, rfl⟩ := List.mem_map.1 hx
    exact t_comma s)
theorem uint32_digits {n : Nat} (h : n < 4294967296) : Lib.parseUintB 32 (Lib.decDigits n) = .ok n := uint_digits (by decide) (by rw [show (2 : Nat) ^ 32 - 1 = 4294967295 from rfl]; omega)
theorem uint32_le {l : List UInt8} {n : Nat} (h : Lib.parseUintB 32 l = .ok n) : n < 4294967296 := by
  have := Lib.parseUintB_le h
  have e : (2 : Nat) ^ 32 - 1 = 4294967295 := by decide
  omega
theorem index_none1 {c : UInt8} : ∀ {l : List UInt8}, c ∉ l → Lib.index l [c] = -1
  | [], _ => by simp [Lib.index]
  | x :: r, h => by
    rw [index_one, if_neg (fun e => h (by simp [e])), index_none1 (fun hm => h (List.mem_cons_of_mem _ hm)), if_pos rfl]
theorem cut_none1 {c : UInt8} {l : List UInt8} (h : c ∉ l) : Lib.cut l [c] = (l, [], false) := by
  unfold Lib.cut
  rw [index_none1 h, if_neg (by omega)]
/-- A word's two numbers. -/
def wordO (w : List UInt8) : Option (Nat × Nat) :=
  match Lib.parseUintB 32 (Lib.cut w [45]).1, Lib.parseUintB 32 (if (Lib.cut w [45]).2.2 then (Lib.cut w [45]).2.1 else (Lib.cut w [45]).1) with
  | .ok a, .ok b => if a ≤ b ∧ ((Lib.cut w [45]).2.2 = true → a ≠ b) then some (a, b) else none
  | _, _ => none
theorem wordO_t {s : SpanV} (h : s.lo ≤ s.hi) : wordO s.t = some (s.lo.toNat, s.hi.toNat) := by
  have := s.hlo
  have := s.hhi
  unfold wordO SpanV.t
  by_cases e : s.lo = s.hi
  · rw [if_pos e, ← e, cut_none1 (not_dec (by decide) _)]
    simp only [Bool.false_eq_true, if_false, uint32_digits (n := s.lo.toNat) (by omega)]
    simp
  · rw [if_neg e, cut_hit1 _ (not_dec (by decide) _)]
    simp only [if_true, uint32_digits (n := s.lo.toNat) (by omega), uint32_digits (n := s.hi.toNat) (by omega)]
    rw [if_pos ⟨by omega, fun _ => by omega⟩]
def SpanV.two (s : SpanV) : Nat × Nat := (s.lo.toNat, s.hi.toNat)
/-- The words' numbers. -/
def readL : List (List UInt8) → Option (List (Nat × Nat))
  | [] => some []
  | w :: r => match wordO w, readL r with
    | some x, some l => some (x :: l)
    | _, _ => none
theorem readL_t : ∀ (F : List SpanV), (∀ s ∈ F, s.lo ≤ s.hi) → readL (F.map SpanV.t) = some (F.map SpanV.two)
  | [], _ => rfl
  | s :: r, h => by
    rw [List.map_cons, readL, wordO_t (h s (by simp)), readL_t r (fun x hx => h x (List.mem_cons_of_mem _ hx))]
    rfl
/-- What is read of the text of a set in its form is that set. -/
theorem read_back {F : List SpanV} (h : F ≠ []) (hn : ∀ s ∈ F, s.lo ≤ s.hi) : readL (pieces 44 (setT F)) = some (F.map SpanV.two) := by
  rw [setT_pieces h, readL_t F hn]
theorem two_inj {s t : SpanV} (h : s.two = t.two) : s = t := by
  have h1 := s.hlo
  have h2 := s.hhi
  have h3 := t.hlo
  have h4 := t.hhi
  unfold SpanV.two at h
  injection h with e1 e2
  exact SpanV.eq (by omega) (by omega)
theorem map_two_inj : ∀ {A B : List SpanV}, A.map SpanV.two = B.map SpanV.two → A = B
  | [], [], _ => rfl
  | [], _ :: _, h => by simp at h
  | _ :: _, [], h => by simp at h
  | a :: A, b :: B, h => by
    rw [List.map_cons, List.map_cons] at h
    injection h with h1 h2
    rw [two_inj h1, map_two_inj h2]
/-- A list that a text was read to, and whose form has that text, is its form. -/
theorem read_form {l F : List SpanV} {s : List UInt8} (hs : s ≠ [45]) (hl : readL (pieces 44 s) = some (l.map SpanV.two)) (hF : ∀ x ∈ F, x.lo ≤ x.hi) (ht : setT F = s) : l = F := by
  have hne : F ≠ [] := fun e => hs (by rw [← ht, e]; rfl)
  have h := read_back hne hF
  rw [ht, hl] at h
  injection h with h
  exact map_two_inj h
/-- A word's two numbers as the document reads them: in their one spelling. -/
def wordD (w : List UInt8) : Option (Nat × Nat) :=
  match readB (Lib.cut w [45]).1 4294967295, readB (if (Lib.cut w [45]).2.2 then (Lib.cut w [45]).2.1 else (Lib.cut w [45]).1) 4294967295 with
  | some a, some b => if a ≤ b ∧ ((Lib.cut w [45]).2.2 = true → a ≠ b) then some (a, b) else none
  | _, _ => none
theorem read_uint {l : List UInt8} {n : Nat} (h : readB l 4294967295 = some n) : Lib.parseUintB 32 l = .ok n := by
  obtain ⟨h1, h2⟩ := readB_some.1 h
  rw [← h1]
  exact uint32_digits (by omega)
theorem wordD_O {w : List UInt8} {x : Nat × Nat} (h : wordD w = some x) : wordO w = some x := by
  unfold wordD at h
  unfold wordO
  split at h
  · rename_i a b h1 h2
    rw [read_uint h1, read_uint h2]
    exact h
  · cases h
theorem wordD_t {s : SpanV} (h : s.lo ≤ s.hi) : wordD s.t = some (s.lo.toNat, s.hi.toNat) := by
  have := s.hlo
  have := s.hhi
  have hr : ∀ n : Nat, n ≤ 4294967295 → readB (Lib.decDigits n) 4294967295 = some n := fun n hn => readB_some.2 ⟨rfl, hn⟩
  unfold wordD SpanV.t
  by_cases e : s.lo = s.hi
  · rw [if_pos e, ← e, cut_none1 (not_dec (by decide) _)]
    simp only [Bool.false_eq_true, if_false, hr s.lo.toNat (by omega)]
    simp
  · rw [if_neg e, cut_hit1 _ (not_dec (by decide) _)]
    simp only [if_true, hr s.lo.toNat (by omega), hr s.hi.toNat (by omega)]
    rw [if_pos ⟨by omega, fun _ => by omega⟩]
theorem wordO_ok {w : List UInt8} {x : Nat × Nat} (h : wordO w = some x) : x.1 ≤ x.2 ∧ x.2 < 4294967296 := by
  unfold wordO at h
  split at h
  · rename_i a b h1 h2
    split at h
    · rename_i hc
      injection h with h
      subst h
      exact ⟨hc.1, uint32_le h2⟩
    · cases h
  · cases h
def spanOf (x : Nat × Nat) (h : x.1 ≤ x.2 ∧ x.2 < 4294967296) : SpanV := ⟨x.1, x.2, by omega, by omega⟩
theorem spanOf_two (x : Nat × Nat) (h : x.1 ≤ x.2 ∧ x.2 < 4294967296) : (spanOf x h).two = x := by
  obtain ⟨a, b⟩ := x
  simp [spanOf, SpanV.two]
theorem readL_spans : ∀ {ws : List (List UInt8)} {l : List (Nat × Nat)}, readL ws = some l → ∃ L : List SpanV, l = L.map SpanV.two ∧ ∀ s ∈ L, s.lo ≤ s.hi
  | [], l, h => by
    injection h with h
    exact ⟨[], h.symm, by simp⟩
  | w :: r, l, h => by
    rw [readL] at h
    split at h
    · rename_i x l' h1 h2
      injection h with h
      subst h
      obtain ⟨L, hL, hk⟩ := readL_spans h2
      have hx := wordO_ok h1
      refine ⟨spanOf x hx :: L, ?_, ?_⟩
      · rw [List.map_cons, spanOf_two, hL]
      · intro s hs
        rcases List.mem_cons.1 hs with rfl | hs
        · show ((x.1 : Nat) : Int) ≤ x.2
          omega
        · exact hk s hs
    · cases h
def readD : List (List UInt8) → Option (List (Nat × Nat))
  | [] => some []
  | w :: r => match wordD w, readD r with
    | some x, some l => some (x :: l)
    | _, _ => none
theorem readD_L : ∀ {ws : List (List UInt8)} {l : List (Nat × Nat)}, readD ws = some l → readL ws = some l
  | [], l, h => h
  | w :: r, l, h => by
    rw [readD] at h
    split at h
    · rename_i x l' h1 h2
      rw [readL, wordD_O h1, readD_L h2]
      exact h
    · cases h
theorem readD_t : ∀ (F : List SpanV), (∀ s ∈ F, s.lo ≤ s.hi) → readD (F.map SpanV.t) = some (F.map SpanV.two)
  | [], _ => rfl
  | s :: r, h => by
    rw [List.map_cons, readD, wordD_t (h s (by simp)), readD_t r (fun x hx => h x (List.mem_cons_of_mem _ hx))]
    rfl
end Go.Proofs.YtakkgamhceignaaDoor

/-
  Sets of numbers as spans: the merging of a sorted list; what is in both; what is in none. No program in sight.
-/
namespace Go.Proofs.YtakkgamhceignaaDoor

theorem hasB_nil (x : Int) : hasB [] x = false := rfl
theorem hasB_take_succ {L : List SpanV} {j : Nat} {s : SpanV} (h : L[j]? = some s) (x : Int) : hasB (L.take (j + 1)) x = (hasB (L.take j) x || s.inB x) := by
  rw [List.take_add_one, h, hasB_append]
  show _ = (_ || s.inB x)
  congr 1
  simp [hasB]
/-- One step of the merging. -/
def mstep (O : List SpanV) (s : SpanV) : List SpanV :=
  match O.getLast? with
  | none => [s]
  | some t => if s.lo ≤ t.hi + 1 then O.dropLast ++ [t.reach s] else O ++ [s]
theorem mstep_nil (s : SpanV) : mstep [] s = [s] := rfl
theorem mstep_in {A : List SpanV} {t s : SpanV} (h : s.lo ≤ t.hi + 1) : mstep (A ++ [t]) s = A ++ [t.reach s] := by
  simp [mstep, h]
theorem mstep_new {A : List SpanV} {t s : SpanV} (h : ¬ s.lo ≤ t.hi + 1) : mstep (A ++ [t]) s = A ++ [t] ++ [s] := by
  simp [mstep, h]
def mfold (L : List SpanV) : List SpanV := L.foldl mstep []
theorem mfold_succ {L : List SpanV} {j : Nat} {s : SpanV} (h : L[j]? = some s) : mfold (L.take (j + 1)) = mstep (mfold (L.take j)) s := by
  rw [List.take_add_one, h]
  simp [mfold, List.foldl_append]
theorem snoc_cases {α : Type} (O : List α) : O = [] ∨ ∃ A t, O = A ++ [t] := by
  rcases List.eq_nil_or_concat O with h | ⟨A, t, h⟩
  · exact .inl h
  · exact .inr ⟨A, t, by simpa using h⟩
theorem mfold_ok {L : List SpanV} (hs : L.Pairwise (fun x y => x.lo ≤ y.lo)) (hv : ∀ s ∈ L, s.lo ≤ s.hi) :
    ∀ j, j ≤ L.length → NF (mfold (L.take j)) ∧ (∀ x, hasB (mfold (L.take j)) x = hasB (L.take j) x) ∧ ∀ t ∈ mfold (L.take j), ∀ s ∈ L.drop j, t.lo ≤ s.lo := by
  intro j
  induction j with
  | zero => intro _; exact ⟨trivial, fun x => rfl, fun t ht => by simp [mfold] at ht⟩
  | succ j ih =>
    intro hj
    obtain ⟨h1, h2, h3⟩ := ih (by omega)
    obtain ⟨s, hsj⟩ : ∃ s, L[j]? = some s := ⟨_, List.getElem?_eq_getElem (by omega)⟩
    have hsm : s ∈ L := List.mem_of_getElem? hsj
    have hd : L.drop j = s :: L.drop (j + 1) := by
      obtain ⟨hj', e⟩ := List.getElem?_eq_some_iff.1 hsj
      rw [List.drop_eq_getElem_cons hj', e]
    have hsrest : ∀ u ∈ L.drop (j + 1), s.lo ≤ u.lo := by
      have := hs.sublist (List.drop_sublist j L)
      rw [hd] at this
      exact (List.pairwise_cons.1 this).1
    have h3' : ∀ t ∈ mfold (L.take j), t.lo ≤ s.lo := fun t ht => h3 t ht s (by rw [hd]; exact List.mem_cons_self ..)
    have h3'' : ∀ t ∈ mfold (L.take j), ∀ u ∈ L.drop (j + 1), t.lo ≤ u.lo := fun t ht u hu => h3 t ht u (by rw [hd]; exact List.mem_cons_of_mem _ hu)
    rw [mfold_succ hsj]
    have hmem : ∀ x, hasB (L.take (j + 1)) x = (hasB (mfold (L.take j)) x || s.inB x) := fun x => by rw [hasB_take_succ hsj, h2 x]
    generalize hO : mfold (L.take j) = O at *
    rcases snoc_cases O with rfl | ⟨A, t, rfl⟩
    · rw [mstep_nil]
      refine ⟨⟨hv s hsm, fun t ht => by simp at ht, trivial⟩, fun x => by rw [hmem, hasB_one, hasB_nil, Bool.false_or], fun t ht u hu => ?_⟩
      obtain rfl := List.mem_singleton.1 ht
      exact hsrest u hu
    · have htl : t.lo ≤ s.lo := h3' t (List.mem_append_right _ (List.mem_singleton.2 rfl))
      by_cases hm : s.lo ≤ t.hi + 1
      · rw [mstep_in hm]
        obtain ⟨k1, k2⟩ := merge_in h1 (hv s hsm) htl hm
        refine ⟨k1, fun x => by rw [k2, hmem], fun u hu v hv' => ?_⟩
        rcases List.mem_append.1 hu with hu | hu
        · exact h3'' u (List.mem_append_left _ hu) v hv'
        · obtain rfl := List.mem_singleton.1 hu
          exact h3'' t (List.mem_append_right _ (List.mem_singleton.2 rfl)) v hv'
      · rw [mstep_new hm]
        refine ⟨merge_new h1 (hv s hsm) (by omega), fun x => by rw [hasB_append, hasB_one, hmem], fun u hu v hv' => ?_⟩
        rcases List.mem_append.1 hu with hu | hu
        · exact h3'' u hu v hv'
        · obtain rfl := List.mem_singleton.1 hu
          exact hsrest v hv'
/-- The form of a list: what the program's three steps make is the list in normal form with the same members. -/
def okS (s : SpanV) : Bool := decide (s.lo ≤ s.hi)
theorem hasB_filter (L : List SpanV) (x : Int) : hasB (L.filter okS) x = hasB L x := by
  rw [Bool.eq_iff_iff, hasB_iff, hasB_iff]
  constructor
  · rintro ⟨s, hs, h1⟩; exact ⟨s, (List.mem_filter.1 hs).1, h1⟩
  · rintro ⟨s, hs, h1, h2⟩; exact ⟨s, List.mem_filter.2 ⟨hs, by simp [okS]; omega⟩, h1, h2⟩
noncomputable def formOf (L : List SpanV) : List SpanV := theSet (hasB L)
theorem formOf_eq {L L' : List SpanV} (hp : L'.Perm (L.filter okS)) (hs : L'.Pairwise (fun x y => x.lo ≤ y.lo)) :
    formOf L = mfold L' ∧ NF (mfold L') ∧ ∀ x, hasB (mfold L') x = hasB L x := by
  have hv : ∀ s ∈ L', s.lo ≤ s.hi := fun s h => by
    have := (List.mem_filter.1 (hp.mem_iff.1 h)).2
    simpa [okS] using this
  obtain ⟨h1, h2, _⟩ := mfold_ok hs hv L'.length (Nat.le_refl _)
  rw [List.take_length] at h1 h2
  have h3 : ∀ x, hasB (mfold L') x = hasB L x := fun x => by rw [h2, hasB_perm hp, hasB_filter]
  exact ⟨theSet_eq h1 h3, h1, h3⟩
theorem formOf_ok (L : List SpanV) : NF (formOf L) ∧ ∀ x, hasB (formOf L) x = hasB L x := by
  have hp : ((L.filter okS).mergeSort (fun x y => decide (x.lo ≤ y.lo))).Perm (L.filter okS) := List.mergeSort_perm _ _
  have hs : ((L.filter okS).mergeSort (fun x y => decide (x.lo ≤ y.lo))).Pairwise (fun x y => x.lo ≤ y.lo) := by
    have := List.pairwise_mergeSort (le := fun (x y : SpanV) => decide (x.lo ≤ y.lo)) (fun a b c h1 h2 => by simp at *; omega) (fun a b => by simp; omega) (L.filter okS)
    exact this.imp (fun h => by simpa using h)
  obtain ⟨h1, h2, h3⟩ := formOf_eq hp hs
  rw [h1]
  exact ⟨h2, h3⟩
theorem theSet_form {P : Int → Bool} {L : List SpanV} (h : ∀ x, hasB L x = P x) : theSet P = formOf L := by
  obtain ⟨h1, h2⟩ := formOf_ok L
  exact theSet_eq h1 (fun x => by rw [h2, h])
theorem mfold_len (L : List SpanV) : ∀ j, (mfold (L.take j)).length ≤ j := by
  intro j
  induction j with
  | zero => simp [mfold]
  | succ j ih =>
    rcases Nat.lt_or_ge j L.length with h | h
    · rw [mfold_succ (List.getElem?_eq_getElem h)]
      generalize mfold (L.take j) = O at *
      rcases snoc_cases O with rfl | ⟨A, t, rfl⟩
      · simp [mstep_nil]
      · by_cases hm : (L[j]).lo ≤ t.hi + 1
        · rw [mstep_in hm]; simp at *; omega
        · rw [mstep_new hm]; simp at *; omega
    · have e : L.take (j + 1) = L.take j := by rw [List.take_of_length_le h, List.take_of_length_le (by omega)]
      rw [e]; omega
theorem formOf_len (L : List SpanV) : (formOf L).length ≤ L.length := by
  have hp : ((L.filter okS).mergeSort (fun x y => decide (x.lo ≤ y.lo))).Perm (L.filter okS) := List.mergeSort_perm _ _
  have hs : ((L.filter okS).mergeSort (fun x y => decide (x.lo ≤ y.lo))).Pairwise (fun x y => x.lo ≤ y.lo) := by
    have := List.pairwise_mergeSort (le := fun (x y : SpanV) => decide (x.lo ≤ y.lo)) (fun a b c h1 h2 => by simp at *; omega) (fun a b => by simp; omega) (L.filter okS)
    exact this.imp (fun h => by simpa using h)
  rw [(formOf_eq hp hs).1]
  generalize hM : (L.filter okS).mergeSort (fun x y => decide (x.lo ≤ y.lo)) = M at *
  have := mfold_len M M.length
  rw [List.take_length] at this
  have := hp.length_eq
  have := List.length_filter_le okS L
  omega

/-- What two spans have in common. -/
def meet1 (s t : SpanV) : List SpanV := if max s.lo t.lo ≤ min s.hi t.hi then [⟨max s.lo t.lo, min s.hi t.hi, by have := s.hlo; have := t.hlo; omega, by have := s.hhi; have := t.hhi; omega⟩] else []
theorem hasB_meet1 (s t : SpanV) (x : Int) : hasB (meet1 s t) x = (s.inB x && t.inB x) := by
  unfold meet1
  rw [Bool.eq_iff_iff, Bool.and_eq_true, inB_iff, inB_iff]
  split
  · rw [hasB_one, inB_iff]; show (max s.lo t.lo ≤ x ∧ x ≤ min s.hi t.hi) ↔ _; omega
  · rw [hasB_nil]; simp; omega
def meetRow (s : SpanV) (B : List SpanV) : List SpanV := B.flatMap (meet1 s)
def meetAll (A B : List SpanV) : List SpanV := A.flatMap (fun s => meetRow s B)
theorem hasB_flatMap {α : Type} (f : α → List SpanV) (A : List α) (x : Int) : hasB (A.flatMap f) x = A.any fun a => hasB (f a) x := by
  induction A with
  | nil => rfl
  | cons a A ih => rw [List.flatMap_cons, hasB_append, ih, List.any_cons]
theorem hasB_meetAll (A B : List SpanV) (x : Int) : hasB (meetAll A B) x = (hasB A x && hasB B x) := by
  unfold meetAll meetRow
  rw [hasB_flatMap]
  simp only [hasB_flatMap, hasB_meet1]
  rw [Bool.eq_iff_iff]
  simp [hasB]
  constructor
  · rintro ⟨s, hs, t, ht, h1, h2⟩; exact ⟨⟨s, hs, h1⟩, t, ht, h2⟩
  · rintro ⟨⟨s, hs, h1⟩, t, ht, h2⟩; exact ⟨s, hs, t, ht, h1, h2⟩
theorem meetRow_succ {s t : SpanV} {B : List SpanV} {k : Nat} (h : B[k]? = some t) : meetRow s (B.take (k + 1)) = meetRow s (B.take k) ++ meet1 s t := by
  unfold meetRow
  rw [List.take_add_one, h, List.flatMap_append]
  simp
theorem meetAll_succ {s : SpanV} {A B : List SpanV} {k : Nat} (h : A[k]? = some s) : meetAll (A.take (k + 1)) B = meetAll (A.take k) B ++ meetRow s B := by
  unfold meetAll
  rw [List.take_add_one, h, List.flatMap_append]
  simp
theorem meet1_len (s t : SpanV) : (meet1 s t).length ≤ 1 := by unfold meet1; split <;> simp
theorem meetRow_len (s : SpanV) (B : List SpanV) : (meetRow s B).length ≤ B.length := by
  induction B with
  | nil => simp [meetRow]
  | cons t B ih =>
    have := meet1_len s t
    simp only [meetRow, List.flatMap_cons, List.length_append, List.length_cons] at *
    omega
theorem meetAll_len (A B : List SpanV) : (meetAll A B).length ≤ A.length * B.length := by
  induction A with
  | nil => simp [meetAll]
  | cons s A ih =>
    have := meetRow_len s B
    simp only [meetAll, List.flatMap_cons, List.length_append, List.length_cons, Nat.succ_mul] at *
    omega

/-- What is not in a list, up to most: step by step over its form. -/
def gapOf (at' most : Int) (s : SpanV) : List SpanV :=
  if h : 0 ≤ at' ∧ at' < s.lo ∧ at' ≤ most ∧ most < 4294967296 then [⟨at', min (s.lo - 1) most, by omega, by omega⟩] else []
def natAt (F : List SpanV) : Int := match F.getLast? with | none => 0 | some s => s.hi + 1
theorem natAt_succ {F : List SpanV} {k : Nat} {s : SpanV} (h : F[k]? = some s) : natAt (F.take (k + 1)) = s.hi + 1 := by
  rw [List.take_add_one, h]
  simp [natAt]
theorem natAt_range {F : List SpanV} : 0 ≤ natAt F ∧ natAt F ≤ 4294967296 := by
  rcases snoc_cases F with rfl | ⟨A, t, rfl⟩
  · simp [natAt]
  · simp [natAt]; have := t.hhi; omega
theorem hasB_natAt {F : List SpanV} (h : NF F) {x : Int} (hx : hasB F x = true) : x < natAt F := by
  rcases snoc_cases F with rfl | ⟨A, t, rfl⟩
  · simp [hasB] at hx
  · obtain ⟨h1, h2, h3⟩ := NF.snoc.1 h
    obtain ⟨s, hs, hx1, hx2⟩ := hasB_iff.1 hx
    have e : natAt (A ++ [t]) = t.hi + 1 := by simp [natAt]
    rw [e]
    rcases List.mem_append.1 hs with hs | hs
    · have := h3 s hs; omega
    · obtain rfl := List.mem_singleton.1 hs; omega
theorem NF.take {F : List SpanV} (h : NF F) : ∀ k, NF (F.take k) := by
  induction F with
  | nil => intro k; simp [NF]
  | cons s r ih =>
    intro k
    cases k with
    | zero => trivial
    | succ k => exact ⟨h.1, fun t ht => h.2.1 t (List.mem_of_mem_take ht), ih h.2.2 k⟩
theorem NF.at_le {F : List SpanV} (h : NF F) {k : Nat} {s : SpanV} (hk : F[k]? = some s) : natAt (F.take k) ≤ s.lo := by
  have h1 := h.take (k + 1)
  rw [List.take_add_one, hk] at h1
  obtain ⟨_, h3, h4⟩ := NF.snoc.1 (show NF (F.take k ++ [s]) from h1)
  rcases snoc_cases (F.take k) with e | ⟨A, t, e⟩
  · rw [e]; exact s.hlo.1
  · rw [e] at h4 ⊢
    have := h4 t (List.mem_append_right _ (List.mem_singleton.2 rfl))
    simp [natAt]; omega
def notTo (most : Int) (F : List SpanV) : Nat → List SpanV
  | 0 => []
  | k + 1 => notTo most F k ++ (match F[k]? with | some s => gapOf (natAt (F.take k)) most s | none => [])
theorem notTo_succ {most : Int} {F : List SpanV} {k : Nat} {s : SpanV} (h : F[k]? = some s) : notTo most F (k + 1) = notTo most F k ++ gapOf (natAt (F.take k)) most s := by
  rw [notTo, h]
def lastOf (at' most : Int) : List SpanV := if h : 0 ≤ at' ∧ at' ≤ most ∧ most < 4294967296 then [⟨at', most, by omega, by omega⟩] else []
def notAll (most : Int) (F : List SpanV) : List SpanV := notTo most F F.length ++ lastOf (natAt F) most
theorem gapOf_len (a m : Int) (s : SpanV) : (gapOf a m s).length ≤ 1 := by unfold gapOf; split <;> simp
theorem notTo_len (most : Int) (F : List SpanV) (k : Nat) : (notTo most F k).length ≤ k := by
  induction k with
  | zero => simp [notTo]
  | succ k ih =>
    rw [notTo, List.length_append]
    split
    · have := gapOf_len (natAt (F.take k)) most ‹_›; omega
    · simp; omega
/-- What is in none of a list, up to most. -/
def notP (most : Int) (L : List SpanV) (x : Int) : Bool := decide (0 ≤ x) && decide (x ≤ most) && !hasB L x
theorem notTo_ok {most : Int} {F : List SpanV} (hF : NF F) (hm : 0 ≤ most ∧ most < 4294967296) : ∀ k, k ≤ F.length →
    NF (notTo most F k) ∧ (∀ a ∈ notTo most F k, a.hi + 1 < natAt (F.take k)) ∧ ∀ x, hasB (notTo most F k) x = (notP most (F.take k) x && decide (x < natAt (F.take k))) := by
  intro k
  induction k with
  | zero =>
    intro _
    refine ⟨trivial, fun a ha => by simp [notTo] at ha, fun x => ?_⟩
    by_cases h0 : 0 ≤ x
    · have h1 : ¬ x < 0 := by omega
      simp [notTo, hasB_nil, natAt, h1]
    · simp [notTo, hasB_nil, notP, natAt, h0]
  | succ k ih =>
    intro hk
    obtain ⟨h1, h2, h3⟩ := ih (by omega)
    obtain ⟨s, hs⟩ : ∃ s, F[k]? = some s := ⟨_, List.getElem?_eq_getElem (by omega)⟩
    have hsv : s.lo ≤ s.hi := hF.ok s (List.mem_of_getElem? hs)
    have hat := hF.at_le hs
    have hat0 := (natAt_range (F := F.take k)).1
    rw [notTo_succ hs, natAt_succ hs]
    have hin : ∀ x, hasB (F.take k) x = true → x < natAt (F.take k) := fun x hx => hasB_natAt (hF.take k) hx
    generalize natAt (F.take k) = A at *
    have hmem : ∀ x, hasB (notTo most F k ++ gapOf A most s) x = (notP most (F.take (k + 1)) x && decide (x < s.hi + 1)) := by
      intro x
      have hin := hin x
      rw [hasB_append, h3, notP, notP, hasB_take_succ hs]
      have hg : hasB (gapOf A most s) x = (decide (A ≤ x) && decide (x < s.lo) && decide (x ≤ most)) := by
        unfold gapOf
        split
        · rw [hasB_one, Bool.eq_iff_iff, inB_iff]
          simp
          show A ≤ x ∧ x ≤ min (s.lo - 1) most ↔ _
          omega
        · rw [hasB_nil]
          simp
          omega
      rw [hg]
      have hi : s.inB x = (decide (s.lo ≤ x) && decide (x ≤ s.hi)) := rfl
      rw [hi]
      cases hx : hasB (F.take k) x with
      | true =>
        have := hin hx
        simp
        omega
      | false =>
        rw [Bool.eq_iff_iff]
        simp
        omega
    refine ⟨?_, ?_, hmem⟩
    · by_cases hg : 0 ≤ A ∧ A < s.lo ∧ A ≤ most ∧ most < 4294967296
      · rw [gapOf, dif_pos hg]
        refine NF.snoc.2 ⟨h1, ?_, fun a ha => h2 a ha⟩
        show A ≤ min (s.lo - 1) most
        omega
      · rw [gapOf, dif_neg hg, List.append_nil]
        exact h1
    · intro a ha
      rcases List.mem_append.1 ha with ha | ha
      · have := h2 a ha; omega
      · unfold gapOf at ha
        split at ha
        · obtain rfl := List.mem_singleton.1 ha
          show min (s.lo - 1) most + 1 < _
          omega
        · simp at ha
theorem notAll_ok {most : Int} {F : List SpanV} (hF : NF F) (hm : 0 ≤ most ∧ most < 4294967296) : NF (notAll most F) ∧ ∀ x, hasB (notAll most F) x = notP most F x := by
  obtain ⟨h1, h2, h3⟩ := notTo_ok hF hm F.length (Nat.le_refl _)
  rw [List.take_length] at h2 h3
  have hat0 := (natAt_range (F := F)).1
  have hin : ∀ x, hasB F x = true → x < natAt F := fun x hx => hasB_natAt hF hx
  unfold notAll
  generalize natAt F = A at *
  refine ⟨?_, fun x => ?_⟩
  · unfold lastOf
    split
    · rename_i hg
      exact NF.snoc.2 ⟨h1, hg.2.1, fun a ha => h2 a ha⟩
    · rw [List.append_nil]; exact h1
  · rw [hasB_append, h3]
    have hg : hasB (lastOf A most) x = (decide (A ≤ x) && decide (x ≤ most)) := by
      unfold lastOf
      split
      · rw [hasB_one, Bool.eq_iff_iff, inB_iff]; simp
      · rw [hasB_nil]; simp; intro _; omega
    rw [hg]
    have hin := hin x
    unfold notP
    cases hx : hasB F x with
    | true => have := hin hx; simp; omega
    | false => rw [Bool.eq_iff_iff]; simp; omega
theorem notP_form (most : Int) (L : List SpanV) : notP most (formOf L) = notP most L := by
  funext x; unfold notP; rw [(formOf_ok L).2]
theorem theSet_not {most : Int} (hm : 0 ≤ most ∧ most < 4294967296) (L : List SpanV) : theSet (notP most L) = notAll most (formOf L) := by
  obtain ⟨h1, h2⟩ := notAll_ok (formOf_ok L).1 hm
  exact theSet_eq h1 (fun x => by rw [h2, notP_form])

end Go.Proofs.YtakkgamhceignaaDoor

/-
  What is read of the text of a set, as one function: no program in sight.
-/
namespace Go.Proofs.YtakkgamhceignaaDoor
open Go Go.RowKit Go.Sort

theorem joinC_join : ∀ (L : List (List UInt8)), joinC L = Lib.join L [44]
  | [] => rfl
  | [x] => (Lib.join_one x [44]).symm
  | x :: y :: r => by
    rw [joinC, joinC_join (y :: r), Lib.join_cons, Lib.join_cons]
    simp [Lib.joinTail]
theorem joinC_snoc : ∀ (L : List (List UInt8)) (x : List UInt8), joinC (L ++ [x]) = if L = [] then x else joinC L ++ 44 :: x
  | [], x => rfl
  | [y], x => by simp [joinC]
  | y :: z :: r, x => by
    have h := joinC_snoc (z :: r) x
    rw [if_neg (by simp)] at h ⊢
    rw [List.cons_append, List.cons_append, joinC, ← List.cons_append, h]
    simp [joinC]
/-- The span of two numbers. -/
def spOf (x : Nat × Nat) : SpanV := if h : x.1 ≤ x.2 ∧ x.2 < 4294967296 then spanOf x h else default
theorem spOf_ok {x : Nat × Nat} (h : x.1 ≤ x.2 ∧ x.2 < 4294967296) : (spOf x).two = x ∧ (spOf x).lo = x.1 ∧ (spOf x).hi = x.2 := by
  unfold spOf
  rw [dif_pos h]
  exact ⟨spanOf_two x h, rfl, rfl⟩
theorem spOf_two {s : SpanV} (h : s.lo ≤ s.hi) : spOf s.two = s := by
  have h1 := s.hlo
  have h2 := s.hhi
  have h3 : s.two.1 ≤ s.two.2 ∧ s.two.2 < 4294967296 := by unfold SpanV.two; dsimp only; omega
  exact two_inj (spOf_ok h3).1
theorem spOf_map {L : List SpanV} (h : ∀ s ∈ L, s.lo ≤ s.hi) : (L.map SpanV.two).map spOf = L := by
  induction L with
  | nil => rfl
  | cons s r ih =>
    rw [List.map_cons, List.map_cons, spOf_two (h s (by simp)), ih (fun x hx => h x (List.mem_cons_of_mem _ hx))]
/-- What is read of a text. -/
noncomputable def setP (s : List UInt8) : Option (List SpanV) :=
  if s = [45] then some [] else match readL (pieces 44 s) with
    | some l => if setT (formOf (l.map spOf)) = s then some (l.map spOf) else none
    | none => none
noncomputable def setL (s : List UInt8) : List SpanV := (setP s).getD []
noncomputable def setE (s : List UInt8) : Int := if (setP s).isSome then 0 else 4
theorem set_none {s : List UInt8} (h : setP s = none) : setL s = [] ∧ setE s = 4 := by unfold setL setE; rw [h]; exact ⟨rfl, rfl⟩
theorem set_some {s : List UInt8} {L : List SpanV} (h : setP s = some L) : setL s = L ∧ setE s = 0 := by unfold setL setE; rw [h]; exact ⟨rfl, rfl⟩
theorem setP_dash : setP [45] = some [] := by unfold setP; rw [if_pos rfl]
theorem setP_bad {s : List UInt8} (hs : s ≠ [45]) (h : readL (pieces 44 s) = none) : setP s = none := by unfold setP; rw [if_neg hs, h]
theorem setP_ne {s : List UInt8} {L : List SpanV} (hs : s ≠ [45]) (h : readL (pieces 44 s) = some (L.map SpanV.two)) (hL : ∀ x ∈ L, x.lo ≤ x.hi) (ht : setT (formOf L) ≠ s) : setP s = none := by
  unfold setP
  rw [if_neg hs, h]
  dsimp only
  rw [spOf_map hL, if_neg ht]
theorem setP_yes {s : List UInt8} {L : List SpanV} (hs : s ≠ [45]) (h : readL (pieces 44 s) = some (L.map SpanV.two)) (hL : ∀ x ∈ L, x.lo ≤ x.hi) (ht : setT (formOf L) = s) : setP s = some L := by
  unfold setP
  rw [if_neg hs, h]
  dsimp only
  rw [spOf_map hL, if_pos ht]
theorem formOf_NF (L : List SpanV) : NF (formOf L) := (formOf_ok L).1
theorem formOf_nil : formOf [] = [] := theSet_eq trivial (fun _ => rfl)
/-- A list that was read is in its form, and the text is its. -/
theorem setP_form {s : List UInt8} {L : List SpanV} (h : setP s = some L) : formOf L = L ∧ setT L = s := by
  unfold setP at h
  split at h
  · rename_i hs
    injection h with h
    subst h
    exact ⟨formOf_nil, by rw [hs]; rfl⟩
  · rename_i hs
    split at h
    · rename_i l hl
      split at h
      · rename_i ht
        injection h with h
        obtain ⟨M, hM, hk⟩ := readL_spans hl
        have e : l.map spOf = M := by rw [hM, spOf_map hk]
        rw [e] at ht h
        subst h
        rw [hM] at hl
        have := read_form hs hl (fun x hx => (formOf_NF M).ok x hx) ht
        exact ⟨this.symm, by rw [← this] at ht; exact ht⟩
      · cases h
    · cases h
theorem setT_ne {F : List SpanV} (h : F ≠ []) (hF : ∀ x ∈ F, x.lo ≤ x.hi) : setT F ≠ [45] := by
  intro e
  have h1 := setT_pieces h
  rw [e] at h1
  obtain ⟨s, r, rfl⟩ := List.exists_cons_of_ne_nil h
  rw [pieces_none (by decide), List.map_cons] at h1
  injection h1 with h1 _
  have h2 := wordO_t (hF s (by simp))
  rw [← h1] at h2
  have h3 : wordO [45] = none := by decide
  rw [h3] at h2
  cases h2
/-- The text of a set in its form is read to it. -/
theorem setP_text {F : List SpanV} (hn : NF F) (hf : formOf F = F) : setP (setT F) = some F := by
  by_cases h : F = []
  · subst h; exact setP_dash
  · exact setP_yes (setT_ne h hn.ok) (read_back h hn.ok) hn.ok (by rw [hf])
/-- What the document's words refuse, the program refuses. -/
theorem setP_badD {s : List UInt8} (hs : s ≠ [45]) (h : readD (pieces 44 s) = none) : setP s = none := by
  cases e : setP s with
  | none => rfl
  | some L =>
    obtain ⟨h1, h2⟩ := setP_form e
    have hn : NF L := by rw [← h1]; exact formOf_NF L
    have hne : L ≠ [] := fun e => hs (by rw [← h2, e]; rfl)
    rw [← h2, setT_pieces hne, readD_t L hn.ok] at h
    cases h
theorem setL_NF (s : List UInt8) : formOf (setL s) = setL s := by
  cases e : setP s with
  | none => rw [(set_none e).1]; exact formOf_nil
  | some L => rw [(set_some e).1]; exact (setP_form e).1
/-- How far the words have been read. -/
def RInv (rd : List (List UInt8) → Option (List (Nat × Nat))) (ws rest : List (List UInt8)) (L : List SpanV) : Prop := rd ws = (rd rest).map fun r => L.map SpanV.two ++ r
theorem rinv_start (rd) (ws : List (List UInt8)) : RInv rd ws ws [] := by
  unfold RInv
  cases rd ws <;> simp
theorem rinvL_bad {ws r : List (List UInt8)} {w : List UInt8} {L : List SpanV} (h : RInv readL ws (w :: r) L) (hw : wordO w = none) : readL ws = none := by
  unfold RInv at h
  rw [h, readL, hw]
  rfl
theorem rinvL_next {ws r : List (List UInt8)} {w : List UInt8} {L : List SpanV} {x : Nat × Nat} (h : RInv readL ws (w :: r) L) (hw : wordO w = some x) : RInv readL ws r (L ++ [spOf x]) := by
  unfold RInv at *
  rw [h, readL, hw]
  have hx := (spOf_ok (wordO_ok hw)).1
  cases readL r with
  | none => rfl
  | some l => simp [hx]
theorem rinvD_bad {ws r : List (List UInt8)} {w : List UInt8} {L : List SpanV} (h : RInv readD ws (w :: r) L) (hw : wordD w = none) : readD ws = none := by
  unfold RInv at h
  rw [h, readD, hw]
  rfl
theorem rinvD_next {ws r : List (List UInt8)} {w : List UInt8} {L : List SpanV} {x : Nat × Nat} (h : RInv readD ws (w :: r) L) (hw : wordD w = some x) : RInv readD ws r (L ++ [spOf x]) := by
  unfold RInv at *
  rw [h, readD, hw]
  have hx := (spOf_ok (wordO_ok (wordD_O hw))).1
  cases readD r with
  | none => rfl
  | some l => simp [hx]
theorem rinvL_end {ws : List (List UInt8)} {L : List SpanV} (h : RInv readL ws [] L) : readL ws = some (L.map SpanV.two) := by
  unfold RInv at h
  rw [h]
  simp [readL]
theorem rinvD_end {ws : List (List UInt8)} {L : List SpanV} (h : RInv readD ws [] L) : readD ws = some (L.map SpanV.two) := by
  unfold RInv at h
  rw [h]
  simp [readD]
theorem read_ok {ws : List (List UInt8)} {L : List SpanV} (h : readL ws = some (L.map SpanV.two)) : ∀ s ∈ L, s.lo ≤ s.hi := by
  obtain ⟨M, hM, hk⟩ := readL_spans h
  rw [map_two_inj hM]
  exact hk
/-- A span's text as the program puts it together. -/
def tB (s : SpanV) : ByteArray := ⟨s.t.toArray⟩
theorem dec32 {n : Nat} (h : n < 4294967296) : (Lib.decDigits n).length ≤ 10 := by
  have : ∀ k n : Nat, n < 10 ^ (k + 1) → (Lib.decDigits n).length ≤ k + 1 := by
    intro k
    induction k with
    | zero => intro n h; rw [decDigits_small (by simpa using h)]; simp
    | succ k ih =>
      intro n h
      by_cases h9 : n < 10
      · rw [decDigits_small h9]; simp
      · rw [decDigits_big h9, List.length_append]
        have := ih (n / 10) (by rw [Nat.pow_succ] at h; omega)
        simp; omega
  exact this 9 n (Nat.lt_of_lt_of_le h (by decide))
theorem t_len (s : SpanV) : s.t.length ≤ 21 := by
  have := s.hlo
  have := s.hhi
  have h1 := dec32 (n := s.lo.toNat) (by omega)
  have h2 := dec32 (n := s.hi.toNat) (by omega)
  unfold SpanV.t
  split
  · omega
  · simp; omega
theorem t_ne (s : SpanV) : s.t ≠ [] := by
  unfold SpanV.t
  split
  · exact decDigits_ne_nil _
  · simp
theorem joinC_len : ∀ (F : List SpanV), (joinC (F.map SpanV.t)).length ≤ 22 * F.length
  | [] => by simp [joinC]
  | [s] => by have := t_len s; simp [joinC]; omega
  | s :: u :: r => by
    have h1 := t_len s
    have h2 := joinC_len (u :: r)
    simp only [List.map_cons, joinC, List.length_append, List.length_cons] at *
    omega
theorem setT_cons {F : List SpanV} (h : F ≠ []) : setT F = joinC (F.map SpanV.t) := by unfold setT; rw [if_neg h]
theorem joinC_ne {F : List SpanV} (h : F ≠ []) : joinC (F.map SpanV.t) ≠ [] := by
  match F, h with
  | [s], _ => exact t_ne s
  | s :: u :: r, _ => simp [joinC]
theorem setT_len (F : List SpanV) : (setT F).length ≤ 22 * F.length + 1 := by
  by_cases h : F = []
  · subst h; decide
  · rw [setT_cons h]; have := joinC_len F; omega
end Go.Proofs.YtakkgamhceignaaDoor

/-
  A region that draws its order, with a head whose operations are quiet in a class of worlds and a tail in one forced order: no program in sight.
-/
namespace Go.Proofs.YtakkgamhceignaaDoor
open Go Go.Sort

section
variable {P : Program} {ops : Array Oper} {md : Region.Mode} {C : World → Prop}
/-- The head, in whatever order, up to L. -/
def headQ (P : Program) (md : Region.Mode) (ops : Array Oper) (C : World → Prop) (n : Nat) (L : Array Bool → Act → Prop) : Nat → Array Bool → Act → Prop
  | 0, listed, a => L listed a
  | f + 1, listed, a => Region.ready md ops listed ≠ [] ∧ ∀ i, i ∈ Region.ready md ops listed → i < n ∧ qOp P ops C i (headQ P md ops C n L f (listed.setIfInBounds i true)) a
theorem any_of_headQ {n g : Nat} {L : Array Bool → Act → Prop} {K : Exit → Act → World → Prop} (hL : ∀ listed a w, C w → L listed a → wpAny P md ops K g listed a w) :
    ∀ (f : Nat) (listed : Array Bool) (a : Act) (w : World), C w → headQ P md ops C n L f listed a → wpAny P md ops K (f + g) listed a w
  | 0, listed, a, w, hw, h => by rw [Nat.zero_add]; exact hL _ _ _ hw h
  | f + 1, listed, a, w, hw, h => by
    have e : f + 1 + g = (f + g) + 1 := by omega
    rw [e]
    refine ⟨fun hn => absurd hn h.1, fun i hi => wpOp_of_qOp hw (fun a' w' hw' h' => any_of_headQ hL f _ a' w' hw' h') (h.2 i hi).2⟩
/-- An operation of the head that is ready may be taken first. -/
theorem headQ_first {n i : Nat} {oi : Oper} {v : Value} {L : Array Bool → Act → Prop} (hi : ops[i]? = some oi) (hsel : ∀ (j : Nat) (o : Oper) cs b, ops[j]? = some o → o.op ≠ .select cs b)
    (hs : Region.sinkB md ops n = true) (hc : Region.chainB md ops n = true) (hn : n < ops.size) (hin : i < n) (hend : ∀ listed a, L listed a → ∀ j ∈ Region.ready md ops listed, n ≤ j)
    (f : Nat) : ∀ (listed : Array Bool) (a : Act), HeadInv md ops n listed →
      (∀ j oj, ops[j]? = some oj → j ≠ i → listed.getD j true = false → (∀ e ∈ oj.after, Region.binds md e = true → e.on ≠ i) → oi.apart ops oj = true) →
      i ∈ Region.ready md ops listed → YieldsIn P ops C oi v a → headQ P md ops C n L f (listed.setIfInBounds i true) (a.put oi.dst v) → headQ P md ops C n L (f + 1) listed a := by
  induction f with
  | zero =>
    intro listed a inv _ hr hy H
    have hlow : ∀ j ∈ Region.ready md ops listed, j < n := fun j hj => (Nat.lt_or_ge j n).elim id fun h => absurd hj (tail_waits hs hc hn inv _ i rfl hin (mem_ready.1 hr).1 j h)
    refine ⟨fun h => (by rw [h] at hr; cases hr), fun j hj => ⟨hlow j hj, ?_⟩⟩
    by_cases hji : j = i
    · subst hji
      exact hy.qOp hi H
    · have h1 := hend _ _ H j (ready_mono hj hji)
      have h2 := hlow j hj
      omega
  | succ f ih =>
    intro listed a inv hfree hr hy H
    have hun := (mem_ready.1 hr).1
    have hlow : ∀ j ∈ Region.ready md ops listed, j < n := fun j hj => (Nat.lt_or_ge j n).elim id fun h => absurd hj (tail_waits hs hc hn inv _ i rfl hin hun j h)
    refine ⟨fun h => (by rw [h] at hr; cases hr), fun j hj => ⟨hlow j hj, ?_⟩⟩
    by_cases hji : j = i
    · subst hji
      exact hy.qOp hi H
    · obtain ⟨hjun, oj, hoj, hall⟩ := mem_ready.1 hj
      have hnot : ∀ e ∈ oj.after, Region.binds md e = true → e.on ≠ i := by
        intro e he hb heq
        have h1 := hall e he hb
        rw [heq, getD_both hun] at h1
        cases h1
      have hput := qOp_put hoj (hfree j oj hoj hji hjun hnot) (fun cs b => hsel i oi cs b hi) (fun cs b => hsel j oj cs b hoj) hy (H.2 j (ready_mono hj hji)).2
      refine qOp_mono (fun a' h3 => ih (listed.setIfInBounds j true) a' (inv.set hj (hlow j hj)) ?_ (ready_mono hr (Ne.symm hji)) h3.1 ?_) hput
      · intro k ok hk hki hku hno
        refine hfree k ok hk hki ?_ hno
        by_cases hjk : j = k
        · subst hjk; exact hjun
        · rw [getD_set_ne true hjk] at hku; exact hku
      · rw [Array.setIfInBounds_comm _ _ hji]
        exact h3.2
theorem headQ_lex {n g : Nat} {Lq : Act → Prop} (hsel : Region.noSelect ops = true) (hs : Region.sinkB md ops n = true) (hc : Region.chainB md ops n = true) (hn : n < ops.size) :
    ∀ (l : List Oper) (k : Nat) (listed : Array Bool) (a : Act), (∀ j, j < l.length → l[j]? = ops[k + j]?) → k + l.length = n → HeadInv md ops n listed →
    Region.lexHead md ops g l.length k listed = true → wpQuiet P ops C Lq l a →
    headQ P md ops C n (fun listed' a' => Region.seqB md ops g n listed' = true ∧ Lq a') l.length listed a := by
  intro l
  induction l with
  | nil =>
    intro k listed a _ hk _ hB h
    obtain rfl : k = n := by simpa using hk
    exact ⟨by simpa [Region.lexHead] using hB, h⟩
  | cons o l ih =>
    intro k listed a hl hk inv hB h
    have h0 : ops[k]? = some o := by simpa using (hl 0 (by simp)).symm
    simp only [List.length_cons, Region.lexHead, Bool.and_eq_true] at hB
    obtain ⟨⟨hr, hf⟩, hB'⟩ := hB
    have hkn : k < n := by simp only [List.length_cons] at hk; omega
    have hr' : k ∈ Region.ready md ops listed := by simpa using hr
    obtain ⟨v, hy, hK⟩ := yieldsIn_of_qOp (C := C) (P := P) (K := wpQuiet P ops C Lq l) h0 (by unfold qOp; simp only [h0]; exact h)
    refine headQ_first h0 (Region.noSelect_spec hsel) hs hc hn hkn (fun listed' a' hL => seqB_ready hL.1) l.length listed a inv (Region.free_spec h0 hf) hr' hy (ih (k + 1) _ _ (fun j hj => ?_) (by simp only [List.length_cons] at hk; omega) (inv.set hr' hkn) hB' hK)
    have h1 := hl (j + 1) (by simp; omega)
    simpa [Nat.add_assoc, Nat.add_comm 1 j] using h1
/-- A head that is quiet in the class, then the tail in its order, in any world of the class. -/
theorem wp_region_quiet_tail {id : Nat} {Q : Exit → Act → World → Prop} {a : Act} {w : World} {l : List Oper} (n : Nat) (hm : P.follows .mixedOrders = true) (hB : Region.lexTailB .any l.toArray n = true) (hC : C { w with drawn := w.drawn + 1 })
    (h : wpQuiet P l.toArray C (fun a' => ∀ w', C w' → wpList P l.toArray Q (l.drop n) a' w') (l.take n) a) : (Code.region id l.toArray true).wp P Q a w := by
  simp only [Region.lexTailB, Bool.and_eq_true, decide_eq_true_eq] at hB
  obtain ⟨⟨⟨⟨hsel, hn⟩, hs⟩, hc⟩, hlex⟩ := hB
  have hn' : n < l.length := by simpa using hn
  have htl : (l.take n).length = n := by simp; omega
  have hdl : (l.drop n).length = l.toArray.size - n := by simp
  have inv0 : HeadInv .any l.toArray n (Array.replicate l.toArray.size false) :=
    ⟨by simp, fun j oj _ hl => (by rw [getD_replicate_false] at hl; cases hl), fun t _ ht => getD_in (by simpa using ht) (getD_replicate_false _ _)⟩
  have H := headQ_lex (C := C) (P := P) (md := .any) (g := l.toArray.size - n) hsel hs hc hn (l.take n) 0 (Array.replicate l.toArray.size false) a (fun j hj => by
    have hj' : j < n := by rw [htl] at hj; exact hj
    simp [hj']) (by simpa using htl) inv0 (by rw [htl]; exact hlex) h
  refine wp_region_any hm ?_
  have H2 := any_of_headQ (K := Q) (g := l.toArray.size - n) (fun listed a' w' hw' hL => by
    have h2 := wpAny_of_seq (P := P) (Q' := Q) (l.drop n) n listed a' w' (fun j => by simp) (by rw [hdl]; exact hL.1) (hL.2 w' hw')
    rw [hdl] at h2
    exact h2) (l.take n).length (Array.replicate l.toArray.size false) a { w with drawn := w.drawn + 1 } hC H
  have e : (l.take n).length + (l.toArray.size - n) = l.toArray.size := by rw [htl]; simp; omega
  rw [e] at H2
  exact H2
/-- The same at the class of the worlds that are drawn and grown. -/
theorem wp_region_tail_below {id : Nat} {Q : Exit → Act → World → Prop} {a : Act} {w : World} {l : List Oper} (n : Nat) (hm : P.follows .mixedOrders = true) (hB : Region.lexTailB .any l.toArray n = true)
    (h : wpQuiet P l.toArray (fun w' => ∃ p : Regrown, w' = grow (redrawn w p.d) p.os) (fun a' => ∀ w', (∃ p : Regrown, w' = grow (redrawn w p.d) p.os) → wpList P l.toArray Q (l.drop n) a' w') (l.take n) a) : (Code.region id l.toArray true).wp P Q a w :=
  wp_region_quiet_tail (C := fun w' => ∃ p : Regrown, w' = grow (redrawn w p.d) p.os) n hm hB ⟨⟨w.drawn + 1, #[]⟩, by rw [grow_empty]; rfl⟩ h
end
end Go.Proofs.YtakkgamhceignaaDoor

/-
  Walks over the filter's layer: a span's text; and what the walk of a rule's text needs.
-/
namespace Go.Proofs.YtakkgamhceignaaDoor
open Go Go.RowKit Go.Sort

@[reducible] def StrR (f : FuncId) (args : Array Value) (t : ByteArray) (W : World) : Prop := ∀ d os, Calls Tryd.prog f args (grow (redrawn W d) os) fun e w' => e = .returned (.string t) ∧ Below (grow (redrawn W d) os).heap.size (grow (redrawn W d) os) w'
theorem dec_size5 {n : Int} (h : n < 4294967296) : (⟨(Lib.decDigits n.toNat).toArray⟩ : ByteArray).size ≤ 10 := by
  show (Lib.decDigits n.toNat).toArray.size ≤ 10
  have h1 := dec32 (n := n.toNat) (by omega)
  simpa using h1
theorem portT_size {lo hi : Int} (h1 : lo < 4294967296) (h2 : hi < 4294967296) : (⟨(portT lo hi).toArray⟩ : ByteArray).size ≤ 21 := by
  show (portT lo hi).toArray.size ≤ 21
  have k1 := dec32 (n := lo.toNat) (by omega)
  have k2 := dec32 (n := hi.toNat) (by omega)
  unfold portT
  simp
  omega
theorem fmtI_any (n : Int) (h0 : 0 ≤ n) (h1 : n < 4294967296) (w : World) (hE : Env w) :
    Calls Tryd.prog 19 #[.int .u64 n, .int .i64 10] w fun e w' => e = .returned (.string ⟨(Lib.decDigits n.toNat).toArray⟩) ∧ Below w.heap.size w w' := by
  obtain ⟨u, rfl⟩ := Int.eq_ofNat_of_zero_le h0
  exact fmtUint_any u (by omega) w hE
theorem prefI_any (a n : Int) (ha : 0 ≤ a ∧ a < 4294967296) (h0 : -9223372036854775808 ≤ n) (h1 : n ≤ 9223372036854775807) (w : World) (hE : Env w) :
    Calls Tryd.prog 25 #[.agg #[.int .u32 a, .int .i64 n]] w fun e w' => e = .returned (.string ⟨(prefT a n).toArray⟩) ∧ Below w.heap.size w w' := by
  obtain ⟨a, rfl⟩ := Int.eq_ofNat_of_zero_le ha.1
  have h := prefixText_any a n (by omega) h0 h1 w hE
  have e : (⟨(prefT (a : Int) n).toArray⟩ : ByteArray) = textP a n := byte_ext (by simp [prefT])
  rw [e]
  exact h
theorem rule_blk {w : World} {g : Nat} {r : RuleV} {t : TypeId} (h : w.heap[g]? = some (.cells #[.bool r.permit, .int .i64 r.proto, .int .u32 r.sa, .int .i64 r.sn, .int .u32 r.da, .int .i64 r.dn, .int .u32 r.sl, .int .u32 r.sh, .int .u32 r.dl, .int .u32 r.dh] t (0, 0))) :
    w.cell? ⟨g, 0, none⟩ = some (.bool r.permit) ∧ w.cell? ⟨g, 1, none⟩ = some (.int .i64 r.proto) ∧ w.cell? ⟨g, 2, none⟩ = some (.int .u32 r.sa) ∧ w.cell? ⟨g, 3, none⟩ = some (.int .i64 r.sn) ∧ w.cell? ⟨g, 4, none⟩ = some (.int .u32 r.da) ∧ w.cell? ⟨g, 5, none⟩ = some (.int .i64 r.dn) ∧ w.cell? ⟨g, 6, none⟩ = some (.int .u32 r.sl) ∧ w.cell? ⟨g, 7, none⟩ = some (.int .u32 r.sh) ∧ w.cell? ⟨g, 8, none⟩ = some (.int .u32 r.dl) ∧ w.cell? ⟨g, 9, none⟩ = some (.int .u32 r.dh) :=
  ⟨cell_of_row w g 0 _ t (0, 0) h, cell_of_row w g 1 _ t (0, 0) h, cell_of_row w g 2 _ t (0, 0) h, cell_of_row w g 3 _ t (0, 0) h, cell_of_row w g 4 _ t (0, 0) h, cell_of_row w g 5 _ t (0, 0) h, cell_of_row w g 6 _ t (0, 0) h, cell_of_row w g 7 _ t (0, 0) h, cell_of_row w g 8 _ t (0, 0) h, cell_of_row w g 9 _ t (0, 0) h⟩
/-- Words with a blank between two. -/
def joinB32 : List (List UInt8) → List UInt8
  | [] => []
  | [x] => x
  | x :: y :: r => x ++ 32 :: joinB32 (y :: r)
theorem joinC_join32 : ∀ (L : List (List UInt8)), joinB32 L = Lib.join L [32]
  | [] => rfl
  | [x] => (Lib.join_one x [32]).symm
  | x :: y :: r => by
    rw [joinB32, joinC_join32 (y :: r), Lib.join_cons, Lib.join_cons]
    simp [Lib.joinTail]
theorem prefT_len {a n : Int} (h0 : 0 ≤ n) (h1 : n ≤ 32) : (prefT a n).length ≤ 26 := by
  have e : (textA a.toNat).data.toList.length = (textA a.toNat).size := Array.length_toList
  have k1 := textA_size a.toNat
  have k2 := dec32 (n := n.toNat) (by omega)
  rw [prefT_nat h0, List.length_append, List.length_cons]
  omega
theorem portT_len {lo hi : Int} (h1 : lo < 4294967296) (h2 : hi < 4294967296) : (portT lo hi).length ≤ 21 := by
  have k1 := dec32 (n := lo.toNat) (by omega)
  have k2 := dec32 (n := hi.toNat) (by omega)
  unfold portT
  simp
  omega
theorem words_len (r : RuleV) (w1 w2 : List UInt8) (h1 : w1.length ≤ 20) (h2 : w2.length ≤ 20) (k0 : 0 ≤ r.sn) (k1 : r.sn ≤ 32) (k2 : 0 ≤ r.dn) (k3 : r.dn ≤ 32) :
    (Lib.join [w1, w2, prefT r.sa r.sn, prefT r.da r.dn, portT r.sl r.sh, portT r.dl r.dh] [32]).length ≤ 140737488355328 := by
  have a1 := prefT_len (a := r.sa) k0 k1
  have a2 := prefT_len (a := r.da) k2 k3
  have a3 := portT_len r.hsl.2 r.hsh.2
  have a4 := portT_len r.hdl.2 r.hdh.2
  rw [← joinC_join32]
  simp only [joinB32, List.length_append, List.length_cons]
  omega
theorem itoaN_any (n : Int) (h0 : 0 ≤ n) (h1 : n ≤ 9223372036854775807) (w : World) (hE : Env w) :
    Calls Tryd.prog 26 #[.int .i64 n] w fun e w' => e = .returned (.string ⟨(Lib.decDigits n.toNat).toArray⟩) ∧ Below w.heap.size w w' := by
  refine (Tryd.strconv_Itoa n (by omega) h1 w hE.tab).mono ?_
  rintro e w2 ⟨rfl, h⟩
  refine ⟨?_, below_of_grow h⟩
  obtain ⟨k, rfl⟩ := Int.eq_ofNat_of_zero_le h0
  rw [Lib.itoa_nonneg, Int.toNat_natCast]
theorem below_drew {B : Nat} {w V : World} (h : Below B w V) : Below B w V.drew := ⟨h.os, h.tape, h.output, h.size, h.block⟩
theorem cell_kept {V V' : World} {a : Addr} {v : Value} (h : Below V.heap.size V V') (c : V.cell? a = some v) : V'.cell? a = some v := (h.cell (block_lt_of_cell c)).trans c
/-- Words joined by blanks. -/
theorem joinW_any (L : List ByteArray) (g : Nat) (V : World) (h : V.heap[g]? = some (.cells (L.map Value.string).toArray 9 (0, 0))) (hpos : 0 < L.length) (hn : L.length ≤ 1000000) (hj : (Lib.join (L.map (·.data.toList)) [32]).length ≤ 140737488355328) :
    Calls Tryd.prog 20 #[.slice (some ⟨g, 0, none⟩) L.length L.length, .string ⟨#[32]⟩] V fun e V' => e = .returned (.string ⟨(Lib.join (L.map (·.data.toList)) [32]).toArray⟩) ∧ Below V.heap.size V V' := by
  have hJ := Tryd.strings_Join g 0 L.length L ⟨#[32]⟩ V (fun j x hj => by rw [Nat.zero_add]; exact cells_str h hj) (lt_of_block h) (by omega) (by omega) hj
  exact hJ
end Go.Proofs.YtakkgamhceignaaDoor

/-
  The text of a route, and the route of a text: plain laws; no walk.
-/
namespace Go.Proofs.YtakkgamhceignaaDoor
open Go Go.RowKit Go.Sort

/-- A route. -/
structure RtV where
  a : Int
  m : Int
  fr : Int
  di : Int
  me : Int
  ta : Int
  nm : List UInt8
  ho : Int
  dc : Bool
  ha : 0 ≤ a ∧ a < 4294967296
  hm : -9223372036854775808 ≤ m ∧ m ≤ 9223372036854775807
  hfr : 0 ≤ fr ∧ fr < 256
  hdi : -9223372036854775808 ≤ di ∧ di ≤ 9223372036854775807
  hme : -9223372036854775808 ≤ me ∧ me ≤ 9223372036854775807
  hta : -9223372036854775808 ≤ ta ∧ ta ≤ 9223372036854775807
  hho : 0 ≤ ho ∧ ho < 4294967296
instance : Inhabited RtV := ⟨⟨0, 0, 0, 0, 0, 0, [], 0, false, by omega, by omega, by omega, by omega, by omega, by omega, by omega⟩⟩
def connW : List UInt8 := [99, 111, 110, 110, 101, 99, 116, 101, 100]
def writW : List UInt8 := [119, 114, 105, 116, 116, 101, 110]
def intraW : List UInt8 := [105, 110, 116, 114, 97]
def interW : List UInt8 := [105, 110, 116, 101, 114]
def ext1W : List UInt8 := [101, 120, 116, 101, 114, 110, 97, 108, 49]
def ext2W : List UInt8 := [101, 120, 116, 101, 114, 110, 97, 108, 50]
def ebgpW : List UInt8 := [101, 98, 103, 112]
def ibgpW : List UInt8 := [105, 98, 103, 112]
def viaW : List UInt8 := [118, 105, 97]
def onW : List UInt8 := [111, 110]
def discW : List UInt8 := [100, 105, 115, 99, 97, 114, 100]
/-- The words of where routes come from. -/
def fromsL : List (List UInt8) := [[], connW, writW, intraW, interW, ext1W, ext2W, ebgpW, ibgpW]
def fromW (f : Int) : List UInt8 := fromsL[f.toNat]?.getD []
def letB (c : UInt8) : Bool := (decide (97 ≤ c.toNat) && decide (c.toNat ≤ 122)) || (decide (65 ≤ c.toNat) && decide (c.toNat ≤ 90))
def restB (c : UInt8) : Bool := (decide (48 ≤ c.toNat) && decide (c.toNat ≤ 57)) || decide (c.toNat = 45) || decide (c.toNat = 95) || decide (c.toNat = 46) || decide (c.toNat = 47)
/-- Is it a name? -/
def nameB (l : List UInt8) : Bool := match l with
  | [] => false
  | c :: r => decide (l.length ≤ 32) && letB c && r.all fun x => letB x || restB x
def fineB (n : Int) : Bool := decide (0 ≤ n) && decide (n ≤ 2147483647)
/-- May the route be written? -/
def RtV.ok (r : RtV) : Bool := decide (chk r.a r.m = 0) && decide (1 ≤ r.fr) && decide (r.fr ≤ 8) && fineB r.di && fineB r.me && fineB r.ta && (decide (r.nm = []) || nameB r.nm) && (!r.dc || (decide (r.ho = 0) && decide (r.nm = [])))
def RtV.hopW (r : RtV) : List (List UInt8) := if r.ho = 0 then [] else [viaW, (textA r.ho.toNat).data.toList]
def RtV.nmW (r : RtV) : List (List UInt8) := if r.nm = [] then [] else [onW, r.nm]
def RtV.dcW (r : RtV) : List (List UInt8) := if r.dc then [discW] else []
def RtV.words (r : RtV) : List (List UInt8) := [prefT r.a r.m, fromW r.fr, Lib.decDigits r.di.toNat, Lib.decDigits r.me.toNat, Lib.decDigits r.ta.toNat] ++ (r.hopW ++ (r.nmW ++ r.dcW))
def RtV.text (r : RtV) : List UInt8 := Lib.join r.words [32]
theorem fine_iff {n : Int} : fineB n = true ↔ 0 ≤ n ∧ n ≤ 2147483647 := by simp [fineB]
theorem rt_ok {r : RtV} (h : r.ok = true) : chk r.a r.m = 0 ∧ 1 ≤ r.fr ∧ r.fr ≤ 8 ∧ (0 ≤ r.di ∧ r.di ≤ 2147483647) ∧ (0 ≤ r.me ∧ r.me ≤ 2147483647) ∧ (0 ≤ r.ta ∧ r.ta ≤ 2147483647) ∧ (r.nm = [] ∨ nameB r.nm = true) ∧ (r.dc = true → r.ho = 0 ∧ r.nm = []) := by
  simp only [RtV.ok, Bool.and_eq_true, decide_eq_true_eq, fine_iff, Bool.or_eq_true, Bool.not_eq_true'] at h
  obtain ⟨⟨⟨⟨⟨⟨⟨h1, h2⟩, h3⟩, h4⟩, h5⟩, h6⟩, h7⟩, h8⟩ := h
  refine ⟨h1, h2, h3, h4, h5, h6, h7, fun hd => ?_⟩
  rcases h8 with h8 | h8
  · rw [hd] at h8; cases h8
  · exact h8
theorem name_no {l : List UInt8} (h : nameB l = true) : (32 : UInt8) ∉ l := by
  match l, h with
  | c :: r, h =>
    simp only [nameB, Bool.and_eq_true, List.all_eq_true] at h
    intro hm
    rcases List.mem_cons.1 hm with rfl | hm
    · exact absurd h.1.2 (by decide)
    · exact absurd (h.2 _ hm) (by decide)
theorem from_cases {f : Int} (h1 : 1 ≤ f) (h2 : f ≤ 8) : f = 1 ∨ f = 2 ∨ f = 3 ∨ f = 4 ∨ f = 5 ∨ f = 6 ∨ f = 7 ∨ f = 8 := by omega
theorem from_no {f : Int} (h1 : 1 ≤ f) (h2 : f ≤ 8) : (32 : UInt8) ∉ fromW f := by
  rcases from_cases h1 h2 with rfl | rfl | rfl | rfl | rfl | rfl | rfl | rfl <;> decide
theorem rt_words_no {r : RtV} (h : r.ok = true) : ∀ x ∈ r.words, (32 : UInt8) ∉ x := by
  obtain ⟨h1, h2, h3, h4, h5, h6, h7, h8⟩ := rt_ok h
  have k1 := chk_ok h1
  intro x hx
  simp only [RtV.words, List.mem_append, List.mem_cons, List.not_mem_nil, or_false] at hx
  rcases hx with (rfl | rfl | rfl | rfl | rfl) | hx | hx | hx
  · exact prefT_no k1.1
  · exact from_no h2 h3
  · exact not_dec (by decide) _
  · exact not_dec (by decide) _
  · exact not_dec (by decide) _
  · unfold RtV.hopW at hx
    split at hx
    · cases hx
    · simp only [List.mem_cons, List.not_mem_nil, or_false] at hx
      rcases hx with rfl | rfl
      · decide
      · exact not_text (by decide) (by decide) _
  · unfold RtV.nmW at hx
    split at hx
    · cases hx
    · rename_i hne
      simp only [List.mem_cons, List.not_mem_nil, or_false] at hx
      rcases hx with rfl | rfl
      · decide
      · rcases h7 with h7 | h7
        · exact absurd h7 hne
        · exact name_no h7
  · unfold RtV.dcW at hx
    split at hx
    · simp only [List.mem_cons, List.not_mem_nil, or_false] at hx
      rw [hx]; decide
    · cases hx
theorem rt_words {r : RtV} (h : r.ok = true) : pieces 32 r.text = r.words := pieces_joinL 32 _ (by simp [RtV.words]) (rt_words_no h)
theorem rt_ext {r q : RtV} (h0 : r.a = q.a) (h1 : r.m = q.m) (h2 : r.fr = q.fr) (h3 : r.di = q.di) (h4 : r.me = q.me) (h5 : r.ta = q.ta) (h6 : r.nm = q.nm) (h7 : r.ho = q.ho) (h8 : r.dc = q.dc) : r = q := by
  cases r; cases q; simp_all
/-- The number of a word as the program reads it. -/
def num31 (w : List UInt8) : Int := match Lib.parseUintB 31 w with | .ok n => n | _ => -1
/-- What is read of the words behind the first five: hop, name, discard. -/
def restR (w : List (List UInt8)) : Int × List UInt8 × Bool :=
  let h : Int × List (List UInt8) := match w with
    | v :: x :: t => if v = viaW then (adV (parseB x), t) else (0, w)
    | _ => (0, w)
  let n : List UInt8 × List (List UInt8) := match h.2 with
    | v :: x :: t => if v = onW then (x, t) else ([], h.2)
    | _ => ([], h.2)
  (h.1, n.1, !n.2.isEmpty)
/-- The index of a word among those of where routes come from; 0, if it is none. -/
def fromI (w : List UInt8) : Int := ((fromsL.idxOf? w).getD 0 : Nat)
theorem fromI_W {f : Int} (h1 : 1 ≤ f) (h2 : f ≤ 8) : fromI (fromW f) = f := by
  rcases from_cases h1 h2 with rfl | rfl | rfl | rfl | rfl | rfl | rfl | rfl <;> decide
theorem uint31_digits {n : Nat} (h : n < 2147483648) : Lib.parseUintB 31 (Lib.decDigits n) = .ok n := uint_digits (by decide) (by rw [show (2 : Nat) ^ 31 - 1 = 2147483647 from rfl]; omega)
theorem uint31_le {l : List UInt8} {n : Nat} (h : Lib.parseUintB 31 l = .ok n) : n < 2147483648 := by
  have := Lib.parseUintB_le h
  have e : (2 : Nat) ^ 31 - 1 = 2147483647 := by decide
  omega
theorem num31_dec {n : Int} (h0 : 0 ≤ n) (h1 : n ≤ 2147483647) : num31 (Lib.decDigits n.toNat) = n := by
  unfold num31
  rw [uint31_digits (by omega)]
  show ((n.toNat : Nat) : Int) = n
  omega
theorem num31_lt (w : List UInt8) : -1 ≤ num31 w ∧ num31 w ≤ 2147483647 := by
  unfold num31
  split
  · rename_i n h
    have := uint31_le h
    omega
  · omega
theorem fromI_lt (w : List UInt8) : 0 ≤ fromI w ∧ fromI w < 9 := by
  unfold fromI
  cases h : fromsL.idxOf? w with
  | none => simp
  | some k =>
    have : k < fromsL.length := by
      rw [List.idxOf?, List.findIdx?_eq_some_iff_getElem] at h
      exact h.1
    have e : fromsL.length = 9 := rfl
    simp only [Option.getD_some]
    omega
theorem adV_lt (l : List UInt8) : 0 ≤ adV (parseB l) ∧ adV (parseB l) < 4294967296 := by
  cases h : parseB l with
  | none => simp [adV]
  | some n =>
    have := parseB_lt h
    simp only [adV, Option.getD_some]
    omega
theorem adV_text {a : Int} (h0 : 0 ≤ a) (h1 : a < 4294967296) : adV (parseB (textA a.toNat).data.toList) = a := by
  rw [parse_text _ (by omega)]
  show ((a.toNat : Nat) : Int) = a
  omega
theorem restR_lt (w : List (List UInt8)) : 0 ≤ (restR w).1 ∧ (restR w).1 < 4294967296 := by
  unfold restR
  match w with
  | [] => simp
  | [v] => simp
  | v :: x :: t =>
    by_cases h : v = viaW
    · simp only [h, if_true]
      exact adV_lt x
    · simp only [if_neg h]
      omega
/-- The route that is read of the words w0 .. w4 and of what is behind them. -/
def candR (w0 w1 w2 w3 w4 : List UInt8) (rest : List (List UInt8)) : RtV where
  a := ppA w0
  m := ppN w0
  fr := fromI w1
  di := num31 w2
  me := num31 w3
  ta := num31 w4
  nm := (restR rest).2.1
  ho := (restR rest).1
  dc := (restR rest).2.2
  ha := ppA_lt w0
  hm := by have := ppN_range w0; omega
  hfr := by have := fromI_lt w1; omega
  hdi := by have := num31_lt w2; omega
  hme := by have := num31_lt w3; omega
  hta := by have := num31_lt w4; omega
  hho := restR_lt rest
theorem on_via : onW ≠ viaW := by decide
theorem restR_words {r : RtV} (h : r.ok = true) : restR (r.hopW ++ (r.nmW ++ r.dcW)) = (r.ho, r.nm, r.dc) := by
  obtain ⟨_, _, _, _, _, _, h7, h8⟩ := rt_ok h
  have hh := r.hho
  have e := adV_text hh.1 hh.2
  have k1 : onW ≠ viaW := by decide
  have k2 : discW ≠ viaW := by decide
  have k3 : discW ≠ onW := by decide
  unfold RtV.hopW RtV.nmW RtV.dcW
  by_cases h0 : r.ho = 0 <;> by_cases hn : r.nm = [] <;> cases hd : r.dc <;> simp_all [restR]
theorem candR_words {r : RtV} (h : r.ok = true) : candR (prefT r.a r.m) (fromW r.fr) (Lib.decDigits r.di.toNat) (Lib.decDigits r.me.toNat) (Lib.decDigits r.ta.toNat) (r.hopW ++ (r.nmW ++ r.dcW)) = r := by
  obtain ⟨h1, h2, h3, h4, h5, h6, h7, h8⟩ := rt_ok h
  have a1 := ppO_T r.ha.1 r.ha.2 h1
  have a2 := restR_words h
  refine rt_ext a1.1 a1.2.1 (fromI_W h2 h3) (num31_dec h4.1 h4.2) (num31_dec h5.1 h5.2) (num31_dec h6.1 h6.2) ?_ ?_ ?_
  · show (restR _).2.1 = _; rw [a2]
  · show (restR _).1 = _; rw [a2]
  · show (restR _).2.2 = _; rw [a2]
theorem rt_five {r : RtV} (h : r.ok = true) : ppE (prefT r.a r.m) = 0 := (ppO_T r.ha.1 r.ha.2 (rt_ok h).1).2.2
theorem rt_inj {r q : RtV} (h : r.ok = true) (hq : q.ok = true) (e : r.text = q.text) : r = q := by
  have w := rt_words h
  rw [e, rt_words hq] at w
  unfold RtV.words at w
  simp only [List.cons_append, List.nil_append] at w
  injection w with w0 w
  injection w with w1 w
  injection w with w2 w
  injection w with w3 w
  injection w with w4 w
  rw [← candR_words h, ← candR_words hq, w0, w1, w2, w3, w4, w]
open Classical in
/-- The route that a text is the text of. -/
noncomputable def roO (l : List UInt8) : Option RtV := if h : ∃ r : RtV, r.ok = true ∧ r.text = l then some h.choose else none
theorem roO_text {r : RtV} (h : r.ok = true) : roO r.text = some r := by
  have he : ∃ q : RtV, q.ok = true ∧ q.text = r.text := ⟨r, h, rfl⟩
  unfold roO
  rw [dif_pos he, rt_inj he.choose_spec.1 h he.choose_spec.2]
theorem roO_some {l : List UInt8} {r : RtV} (h : roO l = some r) : r.ok = true ∧ r.text = l := by
  unfold roO at h
  split at h
  · rename_i he
    injection h with h
    rw [← h]
    exact he.choose_spec
  · cases h
theorem roO_no {l : List UInt8} (h : ∀ r : RtV, r.ok = true → r.text = l → False) : roO l = none := by
  cases e : roO l with
  | none => rfl
  | some r => exact (h r (roO_some e).1 (roO_some e).2).elim
theorem rt_len {r : RtV} {l : List UInt8} (h : r.ok = true) (hl : r.text = l) : 5 ≤ (pieces 32 l).length := by
  rw [← hl, rt_words h]
  simp [RtV.words]
theorem roO_len {l : List UInt8} (h : (pieces 32 l).length < 5) : roO l = none := roO_no fun _ h1 h2 => by have := rt_len h1 h2; omega
theorem roO_cand {l w0 w1 w2 w3 w4 : List UInt8} {rest : List (List UInt8)} (hp : pieces 32 l = w0 :: w1 :: w2 :: w3 :: w4 :: rest) :
    roO l = if ppE w0 = 0 ∧ (candR w0 w1 w2 w3 w4 rest).ok = true ∧ (candR w0 w1 w2 w3 w4 rest).text = l then some (candR w0 w1 w2 w3 w4 rest) else none := by
  split
  · rename_i h
    have e := roO_text h.2.1
    rw [h.2.2] at e
    exact e
  · rename_i h
    refine roO_no fun r hr ht => h ?_
    have w := rt_words hr
    rw [ht, hp] at w
    unfold RtV.words at w
    simp only [List.cons_append, List.nil_append] at w
    injection w with w0 w
    injection w with w1 w
    injection w with w2 w
    injection w with w3 w
    injection w with w4 w
    subst w0 w1 w2 w3 w4 w
    rw [candR_words hr]
    exact ⟨rt_five hr, hr, ht⟩
/-- What Parse answers. -/
noncomputable def roV (l : List UInt8) : RtV := (roO l).getD default
noncomputable def roE (l : List UInt8) : Int := if (roO l).isSome then 0 else 4
theorem ro_none {l : List UInt8} (h : roO l = none) : roV l = default ∧ roE l = 4 := by unfold roV roE; rw [h]; exact ⟨rfl, rfl⟩
theorem ro_some {l : List UInt8} {r : RtV} (h : roO l = some r) : roV l = r ∧ roE l = 0 := by unfold roV roE; rw [h]; exact ⟨rfl, rfl⟩
end Go.Proofs.YtakkgamhceignaaDoor

/-
  Walks over the layer of routes: fine, froms, line, side.
-/
namespace Go.Proofs.YtakkgamhceignaaDoor
open Go Go.RowKit Go.Lib Go.Sort

theorem fine1_any (n : Int) (w : World) : Calls Tryd.prog 54 #[.int .i64 n] w fun e w' => e = .returned (.bool (!fineB n)) ∧ w = w' := by
  by_cases h0 : n < 0
  · have d1 : decide (n < 0) = true := by simp [h0]
    have hz : fineB n = false := by unfold fineB; simp; omega
    have hzz := Lib.hid hz
    clear hz
    go_enter Tryd.func54, Tryd.ntmps54
    go_wp2
    go_ret
    exact ⟨by rw [hzz.out]; rfl, rfl⟩
  · have d1 : decide (n < 0) = false := by simp; omega
    by_cases h1 : 2147483647 < n
    · have d2 : decide (2147483647 < n) = true := by simp [h1]
      have hz : fineB n = false := by unfold fineB; simp; omega
      have hzz := Lib.hid hz
      clear hz
      go_enter Tryd.func54, Tryd.ntmps54
      go_wp2
      go_ret
      exact ⟨by rw [hzz.out]; rfl, rfl⟩
    · have d2 : decide (2147483647 < n) = false := by simp; omega
      have hz : fineB n = true := by unfold fineB; simp; omega
      have hzz := Lib.hid hz
      clear hz
      go_enter Tryd.func54, Tryd.ntmps54
      go_wp2
      go_ret
      exact ⟨by rw [hzz.out]; rfl, rfl⟩
set_option maxHeartbeats 1000000 in
theorem fineIdx_any (L : List Int) (v : Value) (w : World) (h : Rd w w.heap.size 1 v L.length (L.map (Value.int .i64))) (hlen : L.length ≤ 1000000) :
    Calls Tryd.prog 84 #[v, .func (.func 54) #[] #[]] w fun e w' => (∃ i : Int, e = .returned (.int .i64 i) ∧ decide (0 ≤ i) = !(L.all fineB)) ∧ Below w.heap.size w w' := by
  obtain ⟨A, c, rfl, _⟩ := h.form
  have HL := Lib.hid h
  clear h
  go_enter Tryd.func84, Tryd.ntmps84
  go_wp2
  go_loopw [8] (fun i wr => ∃ j : Nat, i = .int .i64 j ∧ j ≤ L.length ∧ Hid ((L.take j).all fineB = true) ∧ Below w.heap.size w wr) (fun i _ => L.length - (intOf i).toNat)
  case atStart => exact ⟨0, rfl, by omega, Lib.hid (by simp), Below.refl _ _⟩
  case round =>
    obtain ⟨j, rfl, hj, ha, hnx⟩ := hrel
    have hsz := hnx.size
    by_cases hlt : j < L.length
    · have hI : (j : Int) < (L.length : Int) := by omega
      obtain ⟨x, hx⟩ : ∃ x, L[j]? = some x := ⟨_, List.getElem?_eq_getElem hlt⟩
      obtain ⟨b, off, c', hv, _, hbB, hcell⟩ := (HL.out.below hnx).posAt (by omega)
      injection hv with hv1 _ hv3
      subst hv1 hv3
      have f0 : wr.cell? ⟨b, off + j, none⟩ = some (.int .i64 x) := by
        have h := hcell j 0 (.int .i64 x) (by simp [hx])
        simpa using h
      have ht := Lib.hid (show (L.take (j + 1)).all fineB = fineB x by rw [List.take_add_one, hx, List.all_append, ha.out]; simp)
      have hd := Lib.hid (show fineB x = false → L.all fineB = false from fun h => by
        cases e : L.all fineB with
        | false => rfl
        | true => have := List.all_eq_true.1 e x (List.mem_of_getElem? hx); rw [h] at this; cases this)
      have hc := Lib.hid (fine1_any x wr)
      clear hcell hx ha
      cases hf : fineB x with
      | true =>
        rw [hf] at hc ht
        go_wp2_with fail
        refine hc.out.mono ?_
        rintro e w2 ⟨rfl, rfl⟩
        go_wp2
        exact ⟨⟨j + 1, by go_num, by omega, ht, hnx⟩, by simp only [intOf]; omega⟩
      | false =>
        rw [hf] at hc
        have hz := hd.out hf
        have hzz := Lib.hid hz
        clear hz
        go_wp2_with fail
        refine hc.out.mono ?_
        rintro e w2 ⟨rfl, rfl⟩
        go_wp2
        go_ret
        exact ⟨⟨_, rfl, by rw [hzz.out]; simp⟩, hnx⟩
    · obtain rfl : j = L.length := by omega
      have hI : ¬ (L.length : Int) < (L.length : Int) := by omega
      have hz := ha.out
      rw [List.take_length] at hz
      have hzz := Lib.hid hz
      clear hz ha
      go_wp2
      go_ret
      exact ⟨⟨_, rfl, by rw [hzz.out]; decide⟩, hnx⟩
set_option maxHeartbeats 1000000 in
theorem fine_any (L : List Int) (v : Value) (w : World) (h : Rd w w.heap.size 1 v L.length (L.map (Value.int .i64))) (hlen : L.length ≤ 1000000) :
    Calls Tryd.prog 23 #[v] w fun e w' => e = .returned (.bool (L.all fineB)) ∧ Below w.heap.size w w' := by
  have hi := Lib.hid (fineIdx_any L v w h hlen)
  have hc : Calls Tryd.prog 53 #[v, .func (.func 54) #[] #[]] w fun e w' => e = .returned (.bool (!(L.all fineB))) ∧ Below w.heap.size w w' := by
    go_enter Tryd.func53, Tryd.ntmps53
    go_wp2_with fail
    refine hi.out.mono ?_
    rintro e w1 ⟨⟨i, rfl, hd⟩, hb⟩
    have HD := Lib.hid hd
    go_wp2
    go_ret
    exact ⟨by rw [← HD.out]; rfl, hb⟩
  have HC := Lib.hid hc
  clear hc hi h
  go_enter Tryd.func23, Tryd.ntmps23
  go_wp2_with fail
  refine HC.out.mono ?_
  rintro e w1 ⟨rfl, hb⟩
  go_wp2
  go_ret
  exact ⟨by simp, hb⟩
def fromsBlk : Array Value := (fromsL.map fun l => Value.string ⟨l.toArray⟩).toArray
theorem froms_any (w : World) : Calls Tryd.prog 22 #[] w fun e w' => e = .returned (.slice (some ⟨w.heap.size, 0, none⟩) 9 9) ∧ w' = w.alloc (.cells fromsBlk 9) := by
  go_enter Tryd.func22, Tryd.ntmps22
  go_wp2
  go_ret
  exact ⟨rfl, rfl⟩
theorem side_any (b : Bool) (w : World) : Calls Tryd.prog 34 #[.bool b] w fun e w' => e = .returned (.string ⟨(if b then [101, 120, 116, 101, 114, 110, 97, 108] else [105, 110, 116, 101, 114, 110, 97, 108] : List UInt8).toArray⟩) ∧ w = w' := by
  go_enter Tryd.func34, Tryd.ntmps34
  cases b
  all_goals (go_wp2; go_ret; exact ⟨rfl, rfl⟩)
theorem line_any (L : List ByteArray) (g : Nat) (V : World) (h : V.heap[g]? = some (.cells (L.map Value.string).toArray 9 (0, 0))) (hpos : 0 < L.length) (hn : L.length ≤ 1000000) (hj : (Lib.join (L.map (·.data.toList)) [32]).length ≤ 140737488355328) :
    Calls Tryd.prog 28 #[.slice (some ⟨g, 0, none⟩) L.length L.length] V fun e V' => e = .returned (.string ⟨(Lib.join (L.map (·.data.toList)) [32]).toArray⟩) ∧ Below V.heap.size V V' := by
  have hJ := Lib.hid (joinW_any L g V h hpos hn hj)
  clear h hj
  go_enter Tryd.func28, Tryd.ntmps28
  go_wp2_with fail
  refine hJ.out.mono ?_
  rintro e w1 ⟨rfl, hb⟩
  go_wp2
  go_ret
  exact ⟨rfl, hb⟩
end Go.Proofs.YtakkgamhceignaaDoor

/-
  Numbers in their one form (plain; no program in sight): what the program's 'number' and the document's 'Read' read.
-/
import Derived.Lib.AtoiTie
import Derived.Lib.AtoiAllCases
import Derived.Lib.ItoaLen
import Derived.Lib.SplitLaws
import Derived.Lib.Join
namespace Go.Proofs.YtdlhpiknifcehaaDoor
open Go

def isDig (c : UInt8) : Bool := decide (48 ≤ c.toNat) && decide (c.toNat ≤ 57)
def valD (acc : Nat) (l : List UInt8) : Nat := l.foldl (fun n c => 10 * n + (c.toNat - 48)) acc
/-- The number of a text in its one form, at most m. -/
def readB (l : List UInt8) (m : Nat) : Option Nat :=
  if l = [] ∨ (1 < l.length ∧ l.head? = some 48) ∨ l.all isDig = false then none else if valD 0 l ≤ m then some (valD 0 l) else none

theorem valD_append (acc : Nat) (l r : List UInt8) : valD acc (l ++ r) = valD (valD acc l) r := by simp [valD]
theorem dig_of (k : Nat) (h : k < 10) : isDig (UInt8.ofNat (48 + k)) = true ∧ (UInt8.ofNat (48 + k)).toNat - 48 = k := by
  have e : (UInt8.ofNat (48 + k)).toNat = 48 + k := by simp; omega
  unfold isDig
  rw [e]
  exact ⟨by simp; omega, by omega⟩
theorem of_dig (c : UInt8) (h : isDig c = true) : c = UInt8.ofNat (48 + (c.toNat - 48)) ∧ c.toNat - 48 < 10 := by
  unfold isDig at h
  simp at h
  refine ⟨?_, by omega⟩
  apply UInt8.toNat_inj.1
  simp
  omega
theorem decDigits_small {n : Nat} (h : n < 10) : Lib.decDigits n = [UInt8.ofNat (48 + n)] := Lib.decDigits_one h
theorem decDigits_big {n : Nat} (h : ¬ n < 10) : Lib.decDigits n = Lib.decDigits (n / 10) ++ [UInt8.ofNat (48 + n % 10)] := by rw [Lib.decDigits, dif_neg h]
theorem decDigits_ne_nil (n : Nat) : Lib.decDigits n ≠ [] := by
  by_cases h : n < 10
  · rw [decDigits_small h]; simp
  · rw [decDigits_big h]; simp
theorem decDigits_facts : ∀ (k n : Nat), n ≤ k → (Lib.decDigits n).all isDig = true ∧ valD 0 (Lib.decDigits n) = n ∧ (0 < n → (Lib.decDigits n).head? ≠ some 48) := by
  intro k
  induction k with
  | zero =>
    intro n hn
    obtain rfl : n = 0 := by omega
    rw [decDigits_small (by omega)]
    exact ⟨by decide, by decide, fun h => absurd h (by omega)⟩
  | succ k ih =>
    intro n hn
    by_cases h : n < 10
    · rw [decDigits_small h]
      obtain ⟨a, b⟩ := dig_of n h
      generalize UInt8.ofNat (48 + n) = x at a b
      refine ⟨by simp [a], by simp [valD, b], fun h0 => ?_⟩
      intro e
      simp at e
      subst e
      have : (48 : UInt8).toNat - 48 = 0 := by decide
      omega
    · rw [decDigits_big h]
      obtain ⟨a, b, c⟩ := ih (n / 10) (by omega)
      obtain ⟨d, e⟩ := dig_of (n % 10) (by omega)
      generalize UInt8.ofNat (48 + n % 10) = x at d e
      refine ⟨by rw [List.all_append, a]; simp [d], ?_, fun _ => ?_⟩
      · rw [valD_append, b]
        simp only [valD, List.foldl_cons, List.foldl_nil, e]
        omega
      · rw [List.head?_append]
        cases hh : (Lib.decDigits (n / 10)).head? with
        | none => exact absurd (List.head?_eq_none_iff.1 hh) (decDigits_ne_nil _)
        | some x =>
          have := c (by omega)
          rw [hh] at this
          simpa using this
theorem decDigits_all (n : Nat) : (Lib.decDigits n).all isDig = true := (decDigits_facts n n (Nat.le_refl _)).1
theorem decDigits_val (n : Nat) : valD 0 (Lib.decDigits n) = n := (decDigits_facts n n (Nat.le_refl _)).2.1
theorem decDigits_head (n : Nat) (h : 0 < n) : (Lib.decDigits n).head? ≠ some 48 := (decDigits_facts n n (Nat.le_refl _)).2.2 h
theorem decDigits_inj {m n : Nat} (h : Lib.decDigits m = Lib.decDigits n) : m = n := by rw [← decDigits_val m, h, decDigits_val]
theorem decDigits_len (n : Nat) (h : 1 < (Lib.decDigits n).length) : 0 < n := by
  rcases Nat.eq_zero_or_pos n with rfl | h0
  · rw [decDigits_small (by omega)] at h; simp at h
  · exact h0
/-- A text of digits, the first not 0 (or alone), is its number's numeral. -/
theorem decDigits_of : ∀ (k : Nat) (l : List UInt8), l.length ≤ k → l ≠ [] → ¬ (1 < l.length ∧ l.head? = some 48) → l.all isDig = true → Lib.decDigits (valD 0 l) = l := by
  intro k
  induction k with
  | zero => intro l hl hne; exact absurd (List.length_eq_zero_iff.1 (by omega)) hne
  | succ k ih =>
    intro l hl hne hz hall
    obtain ⟨r, c, rfl⟩ : ∃ r c, l = r ++ [c] := ⟨l.dropLast, l.getLast hne, (List.dropLast_concat_getLast hne).symm⟩
    have hc : isDig c = true := by simp at hall; exact hall.2
    have hr : r.all isDig = true := by simp at hall ⊢; exact hall.1
    obtain ⟨e1, e2⟩ := of_dig c hc
    have ev : valD 0 (r ++ [c]) = 10 * valD 0 r + (c.toNat - 48) := by rw [valD_append]; rfl
    by_cases hrn : r = []
    · subst hrn
      rw [ev]
      have : valD 0 [] = 0 := rfl
      rw [this, decDigits_small (by omega), Nat.mul_zero, Nat.zero_add, ← e1]
      rfl
    · have hr0 : r.head? ≠ some 48 := by
        intro h0
        apply hz
        refine ⟨?_, by rw [List.head?_append, h0]; rfl⟩
        have := List.length_pos_iff.2 hrn
        simp; omega
      have hi := ih r (by simp at hl; omega) hrn (fun h => hr0 h.2) hr
      have hp : 0 < valD 0 r := by
        rcases Nat.eq_zero_or_pos (valD 0 r) with h0 | h0
        · exfalso
          rw [h0, decDigits_small (by omega)] at hi
          exact hr0 (by rw [← hi]; rfl)
        · exact h0
      rw [decDigits_big (by rw [ev]; omega)]
      have d1 : valD 0 (r ++ [c]) / 10 = valD 0 r := by rw [ev]; omega
      have d2 : valD 0 (r ++ [c]) % 10 = c.toNat - 48 := by rw [ev]; omega
      rw [d1, d2, hi, ← e1]
theorem readB_some {l : List UInt8} {m n : Nat} : readB l m = some n ↔ Lib.decDigits n = l ∧ n ≤ m := by
  unfold readB
  constructor
  · intro h
    split at h
    · cases h
    · rename_i hn
      split at h
      · rename_i hm
        injection h with h
        subst h
        have h1 : l ≠ [] := fun e => hn (Or.inl e)
        have h2 : ¬ (1 < l.length ∧ l.head? = some 48) := fun e => hn (Or.inr (Or.inl e))
        have h3 : l.all isDig = true := by
          cases e : l.all isDig
          · exact absurd (Or.inr (Or.inr e)) hn
          · rfl
        exact ⟨decDigits_of _ l (Nat.le_refl _) h1 h2 h3, hm⟩
      · cases h
  · rintro ⟨rfl, hm⟩
    rw [if_neg, decDigits_val, if_pos hm]
    rintro (h | h | h)
    · exact decDigits_ne_nil _ h
    · exact decDigits_head n (decDigits_len n h.1) h.2
    · rw [decDigits_all] at h; cases h
theorem readB_le {l : List UInt8} {m n : Nat} (h : readB l m = some n) : n ≤ m := (readB_some.1 h).2

theorem valD_ge : ∀ (l : List UInt8) (acc : Nat), acc ≤ valD acc l
  | [], acc => Nat.le_refl _
  | c :: r, acc => Nat.le_trans (by omega) (valD_ge r (10 * acc + (c.toNat - 48)))
theorem parse_digits : ∀ (l : List UInt8) (acc : Nat), l.all isDig = true → valD acc l < 18446744073709551616 → Lib.parseUint10 acc l = .ok (valD acc l)
  | [], acc, _, _ => rfl
  | c :: r, acc, h, hv => by
    simp only [List.all_cons, Bool.and_eq_true] at h
    have hc := h.1
    unfold isDig at hc
    simp at hc
    have e : valD acc (c :: r) = valD (10 * acc + (c.toNat - 48)) r := rfl
    have hg := valD_ge r (10 * acc + (c.toNat - 48))
    rw [e] at hv
    unfold Lib.parseUint10
    rw [if_pos (by omega), if_neg (by omega), if_neg (by omega), e, show acc * 10 + (c.toNat - 48) = 10 * acc + (c.toNat - 48) by omega]
    exact parse_digits r _ h.2 hv
theorem atoi_digits (n : Nat) (h : n < 9223372036854775808) : Lib.atoiAll (Lib.decDigits n) = .ok (n : Int) := by
  have hp : Lib.parseMag (Lib.decDigits n) = .ok n := by
    unfold Lib.parseMag
    rw [if_neg (decDigits_ne_nil n), parse_digits _ _ (decDigits_all n) (by rw [decDigits_val]; omega), decDigits_val]
  cases e : Lib.decDigits n with
  | nil => exact absurd e (decDigits_ne_nil n)
  | cons c r =>
    have hall := decDigits_all n
    rw [e] at hall hp
    simp only [List.all_cons, Bool.and_eq_true] at hall
    have hc := hall.1
    unfold isDig at hc
    simp at hc
    rw [Lib.atoiAll_plain c r (by omega) (by omega), hp]
    unfold Lib.signless
    simp
    omega
theorem readB_atoi {l : List UInt8} {m n : Nat} (hm : m < 9223372036854775808) (h : readB l m = some n) : Lib.atoiAll l = .ok (n : Int) := by
  obtain ⟨rfl, hn⟩ := readB_some.1 h
  exact atoi_digits n (by omega)
theorem readB_no {l : List UInt8} {m : Nat} (hm : m < 9223372036854775808) (h : ∀ v, Lib.atoiAll l ≠ .ok v) : readB l m = none := by
  cases e : readB l m with
  | none => rfl
  | some n => exact absurd (readB_atoi hm e) (h _)
theorem readB_neg {l : List UInt8} {m : Nat} {v : Int} (hm : m < 9223372036854775808) (ha : Lib.atoiAll l = .ok v) (h : ¬ (0 ≤ v ∧ v ≤ m ∧ Lib.decDigits v.toNat = l)) : readB l m = none := by
  cases e : readB l m with
  | none => rfl
  | some n =>
    have := readB_atoi hm e
    rw [ha] at this
    injection this with this
    subst this
    have := readB_some.1 e
    exact absurd ⟨by omega, by omega, by simpa using this.1⟩ h
theorem readB_yes {l : List UInt8} {m : Nat} {v : Int} (h0 : 0 ≤ v) (h1 : v ≤ m) (h : Lib.decDigits v.toNat = l) : readB l m = some v.toNat := readB_some.2 ⟨h, by omega⟩

/-- A text cut at each byte c. -/
def pieces (c : UInt8) : List UInt8 → List (List UInt8)
  | [] => [[]]
  | x :: r => if x = c then [] :: pieces c r else (x :: (pieces c r).headD []) :: (pieces c r).tail
theorem pieces_ne (c : UInt8) (l : List UInt8) : pieces c l ≠ [] := by cases l <;> simp [pieces]; split <;> simp
theorem index_one (c x : UInt8) (r : List UInt8) : Lib.index (x :: r) [c] = if x = c then 0 else if Lib.index r [c] = -1 then -1 else Lib.index r [c] + 1 := by
  rw [Lib.index]
  have e : [c].isPrefixOf (x :: r) = (c == x) := by simp [List.isPrefixOf]
  rw [e]
  by_cases h : x = c
  · simp [h]
  · have : (c == x) = false := by simp; exact fun e => h e.symm
    simp [this, h]
theorem pieces_miss (c : UInt8) : ∀ (l : List UInt8), Lib.index l [c] = -1 → pieces c l = [l]
  | [], _ => rfl
  | x :: r, h => by
    rw [index_one] at h
    have hg := Lib.index_ge r [c]
    split at h
    · omega
    · rename_i hx
      split at h
      · rename_i hr
        rw [pieces, if_neg hx, pieces_miss c r hr]
        rfl
      · omega
theorem pieces_hit (c : UInt8) : ∀ (l : List UInt8) (i : Nat), Lib.index l [c] = i → pieces c l = l.take i :: pieces c (l.drop (i + 1))
  | [], i, h => by simp [Lib.index] at h
  | x :: r, i, h => by
    rw [index_one] at h
    have hg := Lib.index_ge r [c]
    split at h
    · rename_i hx
      obtain rfl : i = 0 := by omega
      rw [pieces, if_pos hx]
      rfl
    · rename_i hx
      split at h
      · omega
      · obtain ⟨j, rfl⟩ : ∃ j, i = j + 1 := ⟨i - 1, by omega⟩
        rw [pieces, if_neg hx, pieces_hit c r j (by omega)]
        rfl
theorem split_pieces (c : UInt8) : ∀ (k : Nat) (s : List UInt8), s.length ≤ k → Lib.splitK [c] 0 (Lib.count s [c]) s = pieces c s := by
  intro k
  induction k with
  | zero =>
    intro s hs
    obtain rfl := List.length_eq_zero_iff.1 (Nat.le_zero.1 hs)
    rfl
  | succ k ih =>
    intro s hs
    rcases Lib.index_spec s [c] with ⟨h1, _⟩ | ⟨i, h1, h2, _, _⟩
    · rw [Lib.count_miss h1, pieces_miss c s h1]
      rfl
    · have hroom := Lib.index_room s [c] (by omega)
      simp at hroom
      rw [Lib.count_hit (by simp) h1, pieces_hit c s i h1, Nat.add_comm 1, Lib.splitK, if_neg (by rw [h1]; simp), h1]
      simp only [Int.toNat_natCast, Nat.add_zero, List.length_cons, List.length_nil, Nat.zero_add]
      rw [ih (s.drop (i + 1)) (by simp; omega)]
theorem splitB_pieces (c : UInt8) (s : ByteArray) : (Lib.splitB ⟨#[c]⟩ 0 (Lib.countB s ⟨#[c]⟩) s).map (·.data.toList) = pieces c s.data.toList := by
  rw [Lib.splitB_data]
  exact split_pieces c _ _ (Nat.le_refl _)
theorem countB_pieces (c : UInt8) (s : ByteArray) : Lib.countB s ⟨#[c]⟩ + 1 = (pieces c s.data.toList).length := by
  have h := Lib.splitB_all ⟨#[c]⟩ (Nat.le_refl 1) 0 _ s rfl
  rw [← splitB_pieces, List.length_map, h]

theorem pieces_len (c : UInt8) : ∀ (l p : List UInt8), p ∈ pieces c l → p.length ≤ l.length
  | [], p, h => by simp [pieces] at h; subst h; simp
  | x :: r, p, h => by
    rw [pieces] at h
    split at h
    · rcases List.mem_cons.1 h with rfl | h
      · simp
      · have := pieces_len c r p h; simp; omega
    · rcases List.mem_cons.1 h with rfl | h
      · have hne := pieces_ne c r
        cases hp : pieces c r with
        | nil => exact absurd hp hne
        | cons y ys =>
          have := pieces_len c r y (by rw [hp]; simp)
          simp; omega
      · have := pieces_len c r p (List.mem_of_mem_tail h); simp; omega
/-- The address of a text. -/
def parseB (l : List UInt8) : Option Nat :=
  match pieces 46 l with
  | [a, b, c, d] =>
    match readB a 255, readB b 255, readB c 255, readB d 255 with
    | some a, some b, some c, some d => some (((a * 256 + b) * 256 + c) * 256 + d)
    | _, _, _, _ => none
  | _ => none
theorem parseB_lt {l : List UInt8} {n : Nat} (h : parseB l = some n) : n < 4294967296 := by
  unfold parseB at h
  split at h
  · split at h
    · rename_i h1 h2 h3 h4
      have := readB_le h1; have := readB_le h2; have := readB_le h3; have := readB_le h4
      injection h with h
      omega
    · cases h
  · cases h
example : parseB [49, 48, 46, 49, 46, 50, 46, 51] = some 0x0A010203 := by decide
example : Lib.cut [49, 48, 46, 48, 46, 48, 46, 48, 47, 56] [47] = ([49, 48, 46, 48, 46, 48, 46, 48], [56], true) := by decide
/-- An address's text. -/
def textB (a : Nat) : List UInt8 := Lib.join [Lib.decDigits (a / 16777216 % 256), Lib.decDigits (a / 65536 % 256), Lib.decDigits (a / 256 % 256), Lib.decDigits (a % 256)] [46]
end Go.Proofs.YtdlhpiknifcehaaDoor

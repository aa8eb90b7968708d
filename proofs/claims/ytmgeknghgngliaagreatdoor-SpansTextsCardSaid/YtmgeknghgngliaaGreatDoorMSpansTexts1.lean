/-
  Joined texts: Dec, Kit, Ad1, DLift, Kit2, SpMath, SpMath2.
-/
import Derived.Lib.AtoiTie
import Derived.Lib.AtoiAllCases
import Derived.Lib.ItoaLen
import Derived.Lib.SplitLaws
import Derived.Lib.Join
import Derived.WalkKit
import Derived.WalkSpells
import Derived.WalkLawsBesides
import Derived.BigQuiet
import Derived.Lib.Hide
import Derived.Lib.QuietBelow
import Derived.Deep.QuietTactic
import Derived.Test.YtmgeknghgngliaaGreatDoorShelf
import Derived.Lib.AppendIntMem
import Derived.Lib.SmallJoins
import Derived.Test.YtmgeknghgngliaaGreatDoorCards
import Derived.Test.YtmgeknghgngliaaGreatDoorTie
import Derived.ProofKit
import Derived.OpenShut
import Derived.SizedLaws
import Derived.HandedShaped
import Derived.LaidMore
import Derived.Lay
import Derived.Lib.LaidTab
import Derived.SevenTiedAt
import Derived.Stop.Joined
import Derived.Stop.LaidErr
import Derived.Shelf.Vars
import Derived.Lib.SlBy
/-
  Numbers in their one form (plain; no program in sight): what the program's 'number' and the document's 'Read' read.
-/
namespace Go.Proofs.YtmgeknghgngliaaGreatDoor
open Go

def isDig (c : UInt8) : Bool := decide (48 ≤ c.toNat) && decide (c.toNat ≤ 57)
def valD (acc : Nat) (l : List UInt8) : Nat := l.foldl (fun n c => 10 * n + (c.toNat - 48)) acc
/-- The number of a text in its one form, at most m. -/
def readB (l : List UInt8) (m : Nat) : Option Nat :=
  if l = [] ∨ (1 < l.length ∧ l.head? = some 48) ∨ l.all isDig = false then none else if valD 0 l ≤ m then some (valD 0 l) else none

theorem valD_append (acc : Nat) (l r : List UInt8) : valD acc (l ++ r) = valD (valD acc l) r := by simp [valD]
theorem dig_of (k : Nat) (h : k < 10) : isDig (UInt8.ofNat (48 + k)) = true ∧ (UInt8.ofNat (48 + k)).toNat - 48 = k := by
  have e : (UInt8.ofNat (48 + k)).toNat = 48 + k := by simp; omega
  unfold isDig
  rw [e]
  exact ⟨by simp; omega, by omega⟩
theorem of_dig (c : UInt8) (h : isDig c = true) : c = UInt8.ofNat (48 + (c.toNat - 48)) ∧ c.toNat - 48 < 10 := by
  unfold isDig at h
  simp at h
  refine ⟨?_, by omega⟩
  apply UInt8.toNat_inj.1
  simp
  omega
theorem decDigits_small {n : Nat} (h : n < 10) : Lib.decDigits n = [UInt8.ofNat (48 + n)] := Lib.decDigits_one h
theorem decDigits_big {n : Nat} (h : ¬ n < 10) : Lib.decDigits n = Lib.decDigits (n / 10) ++ [UInt8.ofNat (48 + n % 10)] := by rw [Lib.decDigits, dif_neg h]
theorem decDigits_ne_nil (n : Nat) : Lib.decDigits n ≠ [] := by
  by_cases h : n < 10
  · rw [decDigits_small h]; simp
  · rw [decDigits_big h]; simp
theorem decDigits_facts : ∀ (k n : Nat), n ≤ k → (Lib.decDigits n).all isDig = true ∧ valD 0 (Lib.decDigits n) = n ∧ (0 < n → (Lib.decDigits n).head? ≠ some 48) := by
  intro k
  induction k with
  | zero =>
    intro n hn
    obtain rfl : n = 0 := by omega
    rw [decDigits_small (by omega)]
    exact ⟨by decide, by decide, fun h => absurd h (by omega)⟩
  | succ k ih =>
    intro n hn
    by_cases h : n < 10
    · rw [decDigits_small h]
      obtain ⟨a, b⟩ := dig_of n h
      generalize UInt8.ofNat (48 + n) = x at a b
      refine ⟨by simp [a], by simp [valD, b], fun h0 => ?_⟩
      intro e
      simp at e
      subst e
      have : (48 : UInt8).toNat - 48 = 0 := by decide
      omega
    · rw [decDigits_big h]
      obtain ⟨a, b, c⟩ := ih (n / 10) (by omega)
      obtain ⟨d, e⟩ := dig_of (n % 10) (by omega)
      generalize UInt8.ofNat (48 + n % 10) = x at d e
      refine ⟨by rw [List.all_append, a]; simp [d], ?_, fun _ => ?_⟩
      · rw [valD_append, b]
        simp only [valD, List.foldl_cons, List.foldl_nil, e]
        omega
      · rw [List.head?_append]
        cases hh : (Lib.decDigits (n / 10)).head? with
        | none => exact absurd (List.head?_eq_none_iff.1 hh) (decDigits_ne_nil _)
        | some x =>
          have := c (by omega)
          rw [hh] at this
          simpa using this
theorem decDigits_all (n : Nat) : (Lib.decDigits n).all isDig = true := (decDigits_facts n n (Nat.le_refl _)).1
theorem decDigits_val (n : Nat) : valD 0 (Lib.decDigits n) = n := (decDigits_facts n n (Nat.le_refl _)).2.1
theorem decDigits_head (n : Nat) (h : 0 < n) : (Lib.decDigits n).head? ≠ some 48 := (decDigits_facts n n (Nat.le_refl _)).2.2 h
theorem decDigits_inj {m n : Nat} (h : Lib.decDigits m = Lib.decDigits n) : m = n := by rw [← decDigits_val m, h, decDigits_val]
theorem decDigits_len (n : Nat) (h : 1 < (Lib.decDigits n).length) : 0 < n := by
  rcases Nat.eq_zero_or_pos n with rfl | h0
  · rw [decDigits_small (by omega)] at h; simp at h
  · exact h0
/-- A text of digits, the first not 0 (or alone), is its number's numeral. -/
theorem decDigits_of : ∀ (k : Nat) (l : List UInt8), l.length ≤ k → l ≠ [] → ¬ (1 < l.length ∧ l.head? = some 48) → l.all isDig = true → Lib.decDigits (valD 0 l) = l := by
  intro k
  induction k with
  | zero => intro l hl hne; exact absurd (List.length_eq_zero_iff.1 (by omega)) hne
  | succ k ih =>
    intro l hl hne hz hall
    obtain ⟨r, c, rfl⟩ : ∃ r c, l = r ++ [c] := ⟨l.dropLast, l.getLast hne, (List.dropLast_concat_getLast hne).symm⟩
    have hc : isDig c = true := by simp at hall; exact hall.2
    have hr : r.all isDig = true := by simp at hall ⊢; exact hall.1
    obtain ⟨e1, e2⟩ := of_dig c hc
    have ev : valD 0 (r ++ [c]) = 10 * valD 0 r + (c.toNat - 48) := by rw [valD_append]; rfl
    by_cases hrn : r = []
    · subst hrn
      rw [ev]
      have : valD 0 [] = 0 := rfl
      rw [this, decDigits_small (by omega), Nat.mul_zero, Nat.zero_add, ← e1]
      rfl
    · have hr0 : r.head? ≠ some 48 := by
        intro h0
        apply hz
        refine ⟨?_, by rw [List.head?_append, h0]; rfl⟩
        have := List.length_pos_iff.2 hrn
        simp; omega
      have hi := ih r (by simp at hl; omega) hrn (fun h => hr0 h.2) hr
      have hp : 0 < valD 0 r := by
        rcases Nat.eq_zero_or_pos (valD 0 r) with h0 | h0
        · exfalso
          rw [h0, decDigits_small (by omega)] at hi
          exact hr0 (by rw [← hi]; rfl)
        · exact h0
      rw [decDigits_big (by rw [ev]; omega)]
      have d1 : valD 0 (r ++ [c]) / 10 = valD 0 r := by rw [ev]; omega
      have d2 : valD 0 (r ++ [c]) % 10 = c.toNat - 48 := by rw [ev]; omega
      rw [d1, d2, hi, ← e1]
theorem readB_some {l : List UInt8} {m n : Nat} : readB l m = some n ↔ Lib.decDigits n = l ∧ n ≤ m := by
  unfold readB
  constructor
  · intro h
    split at h
    · cases h
    · rename_i hn
      split at h
      · rename_i hm
        injection h with h
        subst h
        have h1 : l ≠ [] := fun e => hn (Or.inl e)
        have h2 : ¬ (1 < l.length ∧ l.head? = some 48) := fun e => hn (Or.inr (Or.inl e))
        have h3 : l.all isDig = true := by
          cases e : l.all isDig
          · exact absurd (Or.inr (Or.inr e)) hn
          · rfl
        exact ⟨decDigits_of _ l (Nat.le_refl _) h1 h2 h3, hm⟩
      · cases h
  · rintro ⟨rfl, hm⟩
    rw [if_neg, decDigits_val, if_pos hm]
    rintro (h | h | h)
    · exact decDigits_ne_nil _ h
    · exact decDigits_head n (decDigits_len n h.1) h.2
    · rw [decDigits_all] at h; cases h
theorem readB_le {l : List UInt8} {m n : Nat} (h : readB l m = some n) : n ≤ m := (readB_some.1 h).2

theorem valD_ge : ∀ (l : List UInt8) (acc : Nat), acc ≤ valD acc l
  | [], acc => Nat.le_refl _
  | c :: r, acc => Nat.le_trans (by omega) (valD_ge r (10 * acc + (c.toNat - 48)))
theorem parse_digits : ∀ (l : List UInt8) (acc : Nat), l.all isDig = true → valD acc l < 18446744073709551616 → Lib.parseUint10 acc l = .ok (valD acc l)
  | [], acc, _, _ => rfl
  | c :: r, acc, h, hv => by
    simp only [List.all_cons, Bool.and_eq_true] at h
    have hc := h.1
    unfold isDig at hc
    simp at hc
    have e : valD acc (c :: r) = valD (10 * acc + (c.toNat - 48)) r := rfl
    have hg := valD_ge r (10 * acc + (c.toNat - 48))
    rw [e] at hv
    unfold Lib.parseUint10
    rw [if_pos (by omega), if_neg (by omega), if_neg (by omega), e, show acc * 10 + (c.toNat - 48) = 10 * acc + (c.toNat - 48) by omega]
    exact parse_digits r _ h.2 hv
theorem atoi_digits (n : Nat) (h : n < 9223372036854775808) : Lib.atoiAll (Lib.decDigits n) = .ok (n : Int) := by
  have hp : Lib.parseMag (Lib.decDigits n) = .ok n := by
    unfold Lib.parseMag
    rw [if_neg (decDigits_ne_nil n), parse_digits _ _ (decDigits_all n) (by rw [decDigits_val]; omega), decDigits_val]
  cases e : Lib.decDigits n with
  | nil => exact absurd e (decDigits_ne_nil n)
  | cons c r =>
    have hall := decDigits_all n
    rw [e] at hall hp
    simp only [List.all_cons, Bool.and_eq_true] at hall
    have hc := hall.1
    unfold isDig at hc
    simp at hc
    rw [Lib.atoiAll_plain c r (by omega) (by omega), hp]
    unfold Lib.signless
    simp
    omega
theorem readB_atoi {l : List UInt8} {m n : Nat} (hm : m < 9223372036854775808) (h : readB l m = some n) : Lib.atoiAll l = .ok (n : Int) := by
  obtain ⟨rfl, hn⟩ := readB_some.1 h
  exact atoi_digits n (by omega)
theorem readB_no {l : List UInt8} {m : Nat} (hm : m < 9223372036854775808) (h : ∀ v, Lib.atoiAll l ≠ .ok v) : readB l m = none := by
  cases e : readB l m with
  | none => rfl
  | some n => exact absurd (readB_atoi hm e) (h _)
theorem readB_neg {l : List UInt8} {m : Nat} {v : Int} (hm : m < 9223372036854775808) (ha : Lib.atoiAll l = .ok v) (h : ¬ (0 ≤ v ∧ v ≤ m ∧ Lib.decDigits v.toNat = l)) : readB l m = none := by
  cases e : readB l m with
  | none => rfl
  | some n =>
    have := readB_atoi hm e
    rw [ha] at this
    injection this with this
    subst this
    have := readB_some.1 e
    exact absurd ⟨by omega, by omega, by simpa using this.1⟩ h
theorem readB_yes {l : List UInt8} {m : Nat} {v : Int} (h0 : 0 ≤ v) (h1 : v ≤ m) (h : Lib.decDigits v.toNat = l) : readB l m = some v.toNat := readB_some.2 ⟨h, by omega⟩

/-- A text cut at each byte c. -/
def pieces (c : UInt8) : List UInt8 → List (List UInt8)
  | [] => [[]]
  | x :: r => if x = c then [] :: pieces c r else (x :: (pieces c r).headD []) :: (pieces c r).tail
theorem pieces_ne (c : UInt8) (l : List UInt8) : pieces c l ≠ [] := by cases l <;> simp [pieces]; split <;> simp
theorem index_one (c x : UInt8) (r : List UInt8) : Lib.index (x :: r) [c] = if x = c then 0 else if Lib.index r [c] = -1 then -1 else Lib.index r [c] + 1 := by
  rw [Lib.index]
  have e : [c].isPrefixOf (x :: r) = (c == x) := by simp [List.isPrefixOf]
  rw [e]
  by_cases h : x = c
  · simp [h]
  · have : (c == x) = false := by simp; exact fun e => h e.symm
    simp [this, h]
theorem pieces_miss (c : UInt8) : ∀ (l : List UInt8), Lib.index l [c] = -1 → pieces c l = [l]
  | [], _ => rfl
  | x :: r, h => by
    rw [index_one] at h
    have hg := Lib.index_ge r [c]
    split at h
    · omega
    · rename_i hx
      split at h
      · rename_i hr
        rw [pieces, if_neg hx, pieces_miss c r hr]
        rfl
      · omega
theorem pieces_hit (c : UInt8) : ∀ (l : List UInt8) (i : Nat), Lib.index l [c] = i → pieces c l = l.take i :: pieces c (l.drop (i + 1))
  | [], i, h => by simp [Lib.index] at h
  | x :: r, i, h => by
    rw [index_one] at h
    have hg := Lib.index_ge r [c]
    split at h
    · rename_i hx
      obtain rfl : i = 0 := by omega
      rw [pieces, if_pos hx]
      rfl
    · rename_i hx
      split at h
      · omega
      · obtain ⟨j, rfl⟩ : ∃ j, i = j + 1 := ⟨i - 1, by omega⟩
        rw [pieces, if_neg hx, pieces_hit c r j (by omega)]
        rfl
theorem split_pieces (c : UInt8) : ∀ (k : Nat) (s : List UInt8), s.length ≤ k → Lib.splitK [c] 0 (Lib.count s [c]) s = pieces c s := by
  intro k
  induction k with
  | zero =>
    intro s hs
    obtain rfl := List.length_eq_zero_iff.1 (Nat.le_zero.1 hs)
    rfl
  | succ k ih =>
    intro s hs
    rcases Lib.index_spec s [c] with ⟨h1, _⟩ | ⟨i, h1, h2, _, _⟩
    · rw [Lib.count_miss h1, pieces_miss c s h1]
      rfl
    · have hroom := Lib.index_room s [c] (by omega)
      simp at hroom
      rw [Lib.count_hit (by simp) h1, pieces_hit c s i h1, Nat.add_comm 1, Lib.splitK, if_neg (by rw [h1]; simp), h1]
      simp only [Int.toNat_natCast, Nat.add_zero, List.length_cons, List.length_nil, Nat.zero_add]
      rw [ih (s.drop (i + 1)) (by simp; omega)]
theorem splitB_pieces (c : UInt8) (s : ByteArray) : (Lib.splitB ⟨#[c]⟩ 0 (Lib.countB s ⟨#[c]⟩) s).map (·.data.toList) = pieces c s.data.toList := by
  rw [Lib.splitB_data]
  exact split_pieces c _ _ (Nat.le_refl _)
theorem countB_pieces (c : UInt8) (s : ByteArray) : Lib.countB s ⟨#[c]⟩ + 1 = (pieces c s.data.toList).length := by
  have h := Lib.splitB_all ⟨#[c]⟩ (Nat.le_refl 1) 0 _ s rfl
  rw [← splitB_pieces, List.length_map, h]

theorem pieces_len (c : UInt8) : ∀ (l p : List UInt8), p ∈ pieces c l → p.length ≤ l.length
  | [], p, h => by simp [pieces] at h; subst h; simp
  | x :: r, p, h => by
    rw [pieces] at h
    split at h
    · rcases List.mem_cons.1 h with rfl | h
      · simp
      · have := pieces_len c r p h; simp; omega
    · rcases List.mem_cons.1 h with rfl | h
      · have hne := pieces_ne c r
        cases hp : pieces c r with
        | nil => exact absurd hp hne
        | cons y ys =>
          have := pieces_len c r y (by rw [hp]; simp)
          simp; omega
      · have := pieces_len c r p (List.mem_of_mem_tail h); simp; omega
/-- The address of a text. -/
def parseB (l : List UInt8) : Option Nat :=
  match pieces 46 l with
  | [a, b, c, d] =>
    match readB a 255, readB b 255, readB c 255, readB d 255 with
    | some a, some b, some c, some d => some (((a * 256 + b) * 256 + c) * 256 + d)
    | _, _, _, _ => none
  | _ => none
theorem parseB_lt {l : List UInt8} {n : Nat} (h : parseB l = some n) : n < 4294967296 := by
  unfold parseB at h
  split at h
  · split at h
    · rename_i h1 h2 h3 h4
      have := readB_le h1; have := readB_le h2; have := readB_le h3; have := readB_le h4
      injection h with h
      omega
    · cases h
  · cases h
example : parseB [49, 48, 46, 49, 46, 50, 46, 51] = some 0x0A010203 := by decide
example : Lib.cut [49, 48, 46, 48, 46, 48, 46, 48, 47, 56] [47] = ([49, 48, 46, 48, 46, 48, 46, 48], [56], true) := by decide
/-- An address's text. -/
def textB (a : Nat) : List UInt8 := Lib.join [Lib.decDigits (a / 16777216 % 256), Lib.decDigits (a / 65536 % 256), Lib.decDigits (a / 256 % 256), Lib.decDigits (a % 256)] [46]
end Go.Proofs.YtmgeknghgngliaaGreatDoor

/-
  Small general lemmas for the walks of this seat (contracts met in quiet regions); no program in sight.
-/
namespace Go.Proofs.YtmgeknghgngliaaGreatDoor
open Go Go.RowKit Go.Sort

theorem quiet_left {P : Program} {f : FuncId} {args : Array Value} {w : World} {n : Nat} {v : Value}
    (h : Calls P f args (w.drewN n) fun e w' => e = .returned v ∧ w.drewN n = w') : Calls P f args (w.drewN n) fun e w'' => e = .returned v ∧ ∃ m, w'' = w.drewN m :=
  h.mono fun _ _ ⟨he, hm⟩ => ⟨he, n, hm.symm⟩
theorem quiet_add_left {P : Program} {f : FuncId} {args : Array Value} {w : World} {a n : Nat} {v : Value}
    (h : Calls P f args (w.drewN (a + n)) fun e w' => e = .returned v ∧ w.drewN (a + n) = w') : Calls P f args (w.drewN (a + n)) fun e w'' => e = .returned v ∧ ∃ m, w'' = w.drewN (a + m) :=
  h.mono fun _ _ ⟨he, hm⟩ => ⟨he, n, hm.symm⟩

/-- A contract that leaves the world, met where the class is 'blocks may have been laid'. -/
theorem regrown_left {P : Program} {f : FuncId} {args : Array Value} {w : World} {d : Nat} {os : Array Obj} {v : Value}
    (h : Calls P f args (grow (redrawn w d) os) fun e w' => e = .returned v ∧ grow (redrawn w d) os = w') : Calls P f args (grow (redrawn w d) os) fun e w'' => e = .returned v ∧ ∃ p : Regrown, w'' = grow (redrawn w p.d) p.os :=
  h.mono fun _ _ ⟨he, hm⟩ => ⟨he, ⟨d, os⟩, hm.symm⟩

theorem below_drewN {B : Nat} {a w : World} (h : Below B a w) (n : Nat) : Below B a (w.drewN n) := ⟨h.os, h.tape, h.output, h.size, h.block⟩

theorem ret_int {k : IntKind} {a b : Int} (h : a = b) : Ending.returned (.int k a) = .returned (.int k b) := by rw [h]
theorem ret_bool {a b : Bool} (h : a = b) : Ending.returned (.bool a) = .returned (.bool b) := by rw [h]


theorem only_drewN {a w : World} {row : Option Nat} (h : a.grownBy w row) (n : Nat) : a.grownBy (w.drewN n) row := ⟨h.os, h.tape, h.output, h.size, h.block⟩
theorem only_drew {a w : World} {row : Option Nat} (h : a.grownBy w row) : a.grownBy w.drew row := ⟨h.os, h.tape, h.output, h.size, h.block⟩
theorem only_alloc {a w : World} {row : Option Nat} (h : a.grownBy w row) (o : Obj) : a.grownBy (w.alloc o) row :=
  ⟨h.os, h.tape, h.output, Nat.le_trans h.size (by simp), fun i hi hne => (Below.heap_alloc w o i (Nat.lt_of_lt_of_le hi h.size)).trans (h.block i hi hne)⟩
theorem only_setCell {a w : World} {g : Nat} (h : a.grownBy w (some g)) {p : Addr} (hp : p.block = g ∨ a.heap.size ≤ p.block) (u : Value) : a.grownBy (w.setCell p u) (some g) :=
  ⟨h.os, h.tape, h.output, by simpa [World.setCell] using h.size, fun i hi hne => (Below.heap_setCell w p u i (by
    rintro rfl
    rcases hp with hp | hp
    · exact hne (by rw [hp])
    · omega)).trans (h.block i hi hne)⟩
theorem only_of_below {a w : World} (h : Below a.heap.size a w) (row : Option Nat) : a.grownBy w row := ⟨h.os, h.tape, h.output, h.size, fun i hi _ => h.block i hi⟩


/-- A row of the call's own stays owned while a block below its base is written. -/
theorem owns_kept_lt {w w' : World} {base k : Nat} {e : TypeId} {size n : Nat} {v : Value} {xs : List Value} (h : w.ownsRow base e size v n xs) (hg : w.grownBy w' (some k)) (hk : k < base) : w'.ownsRow base e size v n xs :=
  h.kept hg (by
    cases hv : v.ownBlock with
    | none => exact .inl rfl
    | some g =>
      have := (h.lt g hv).1
      exact .inr (by intro hh; injection hh with hh; omega))
/-- .. and while nothing is written. -/
theorem owns_kept_none {w w' : World} {base : Nat} {e : TypeId} {size n : Nat} {v : Value} {xs : List Value} (h : w.ownsRow base e size v n xs) (hg : w.grownBy w' none) : w'.ownsRow base e size v n xs :=
  h.kept hg (by
    cases hv : v.ownBlock with
    | none => exact .inl rfl
    | some g => exact .inr (by simp))
/-- A block below the row's base is as it was when the row has grown. -/
theorem heap_kept_lt {w w' : World} {base b : Nat} {e : TypeId} {size n : Nat} {v : Value} {xs : List Value} (h : w.ownsRow base e size v n xs) (hg : w.grownBy w' v.ownBlock) (hb : b < base) (hl : b < w.heap.size) : w'.heap[b]? = w.heap[b]? :=
  hg.block b hl (fun e => by have := (h.lt b e.symm).1; omega)
/-- The cells of a block that has just been laid. -/
theorem cells_new (w : World) (l : List Value) (t : TypeId) : ∀ (j : Nat) (u : Value), l[j]? = some u → (w.alloc (.cells l.toArray t)).cell? ((⟨w.heap.size, 0, none⟩ : Addr).add j) = some u := by
  intro j u hu
  have e : (⟨w.heap.size, 0, none⟩ : Addr).add j = ⟨w.heap.size, j, none⟩ := by simp [Addr.add]; omega
  rw [e, cell_of_row _ _ _ _ _ _ (heap_alloc_new w _)]
  simpa using hu
theorem owns_base {w : World} {base base' : Nat} {e : TypeId} {size n : Nat} {v : Value} {xs : List Value} (h : w.ownsRow base e size v n xs) (hb : base' ≤ base) : w.ownsRow base' e size v n xs := by
  obtain ⟨h1, h2⟩ := h
  refine ⟨h1, ?_⟩
  rcases h2 with h2 | ⟨g, cap, cur, hv, hg, r⟩
  · exact Or.inl h2
  · exact Or.inr ⟨g, cap, cur, hv, by omega, r⟩
theorem below_row {B : Nat} {a w w' : World} {base : Nat} {e : TypeId} {size n : Nat} {v : Value} {xs : List Value} (h : Below B a w) (ho : w.ownsRow base e size v n xs) (hg : w.grownBy w' v.ownBlock) (hB : B ≤ w.heap.size) (hb : B ≤ base) : Below B a w' :=
  h.grown hg hB (fun k hk => by have := (ho.lt k hk).1; omega)


/-- A slice value that reads as n elements of k cells each, in a block below B. -/
def Rd (w : World) (B k : Nat) (v : Value) (n : Nat) (xs : List Value) : Prop :=
  ∃ (A : Option Addr) (c : Nat), v = .slice A n c ∧ n ≤ c ∧ xs.length = n * k ∧ (0 < n → ∃ b off, A = some ⟨b, off, none⟩ ∧ b < B ∧ ∀ j u, xs[j]? = some u → w.cell? ⟨b, off + j, none⟩ = some u)
theorem Rd.form {w : World} {B k : Nat} {v : Value} {n : Nat} {xs : List Value} (h : Rd w B k v n xs) : ∃ (A : Option Addr) (c : Nat), v = .slice A n c ∧ n ≤ c := by
  obtain ⟨A, c, hv, hc, _⟩ := h
  exact ⟨A, c, hv, hc⟩
theorem Rd.pos {w : World} {B k : Nat} {v : Value} {n : Nat} {xs : List Value} (h : Rd w B k v n xs) (hn : 0 < n) :
    ∃ b off c, v = .slice (some ⟨b, off, none⟩) n c ∧ n ≤ c ∧ b < B ∧ ∀ j u, xs[j]? = some u → w.cell? ⟨b, off + j, none⟩ = some u := by
  obtain ⟨A, c, hv, hc, _, hp⟩ := h
  obtain ⟨b, off, hA, hb, hcell⟩ := hp hn
  exact ⟨b, off, c, by rw [hv, hA], hc, hb, hcell⟩
/-- .. its cells by element and field. -/
theorem Rd.posAt {w : World} {B k : Nat} {v : Value} {n : Nat} {xs : List Value} (h : Rd w B k v n xs) (hn : 0 < n) :
    ∃ b off c, v = .slice (some ⟨b, off, none⟩) n c ∧ n ≤ c ∧ b < B ∧ ∀ i j u, xs[i * k + j]? = some u → w.cell? ⟨b, off + i * k + j, none⟩ = some u := by
  obtain ⟨b, off, c, hv, hc, hb, hcell⟩ := h.pos hn
  exact ⟨b, off, c, hv, hc, hb, fun i j u hu => by rw [Nat.add_assoc]; exact hcell _ _ hu⟩
theorem Rd.of_own {w : World} {base k : Nat} {e : TypeId} {v : Value} {n : Nat} {xs : List Value} (h : w.ownsRow base e k v n xs) : Rd w w.heap.size k v n xs := by
  have hcells := fun (g : Nat) (hg : v.ownBlock = some g) => h.cells hg
  obtain ⟨h1, h2⟩ := h
  rcases h2 with ⟨rfl, rfl⟩ | ⟨g, cap, cur, rfl, _, hg, hnc, _⟩
  · exact ⟨none, 0, rfl, Nat.le_refl _, h1, fun h => absurd h (by omega)⟩
  · refine ⟨_, cap, rfl, hnc, h1, fun _ => ⟨g, 0, rfl, (Array.getElem?_eq_some_iff.1 hg).1, fun j u hu => ?_⟩⟩
    have hj := hcells g rfl j u hu
    have e : (⟨g, 0, none⟩ : Addr).add j = ⟨g, 0 + j, none⟩ := by simp [Addr.add]; omega
    rw [← e]; exact hj
theorem Rd.of_blk {w : World} {g k n c : Nat} {cs : Array Value} {t : TypeId} (h : w.heap[g]? = some (.cells cs t (0, 0))) (hc : n ≤ c) (hl : cs.toList.length = n * k) : Rd w w.heap.size k (.slice (some ⟨g, 0, none⟩) n c) n cs.toList :=
  ⟨_, c, rfl, hc, hl, fun _ => ⟨g, 0, rfl, (Array.getElem?_eq_some_iff.1 h).1, fun j u hu => by
    rw [Nat.zero_add, cell_of_row w g j cs t (0, 0) h]
    simpa using hu⟩⟩
theorem Rd.below {w w' : World} {B k : Nat} {v : Value} {n : Nat} {xs : List Value} (h : Rd w B k v n xs) (hb : Below B w w') : Rd w' B k v n xs := by
  obtain ⟨A, c, hv, hc, hl, hp⟩ := h
  refine ⟨A, c, hv, hc, hl, fun hn => ?_⟩
  obtain ⟨b, off, hA, hB, hcell⟩ := hp hn
  exact ⟨b, off, hA, hB, fun j u hu => (hb.cell (p := ⟨b, off + j, none⟩) hB).trans (hcell j u hu)⟩
theorem Rd.mono {w : World} {B B' k : Nat} {v : Value} {n : Nat} {xs : List Value} (h : Rd w B k v n xs) (hb : B ≤ B') : Rd w B' k v n xs := by
  obtain ⟨A, c, hv, hc, hl, hp⟩ := h
  refine ⟨A, c, hv, hc, hl, fun hn => ?_⟩
  obtain ⟨b, off, hA, hB, hcell⟩ := hp hn
  exact ⟨b, off, hA, by omega, hcell⟩

/-- A block that was there is there behind a call. -/
theorem blk_below {w w1 : World} (hb : Below w.heap.size w w1) {g : Nat} {o : Obj} (h : w.heap[g]? = some o) : w1.heap[g]? = some o := (hb.block g (lt_of_block h)).trans h
theorem blk3 (w : World) (A B C : Obj) : (((w.alloc A).alloc B).alloc C).heap[w.heap.size]? = some A ∧ (((w.alloc A).alloc B).alloc C).heap[w.heap.size + 1]? = some B ∧ (((w.alloc A).alloc B).alloc C).heap[w.heap.size + 1 + 1]? = some C := by
  have hA := heap_alloc_new w A
  have hB := heap_alloc_new (w.alloc A) B
  have hC := heap_alloc_new ((w.alloc A).alloc B) C
  simp only [World.size_alloc] at hB hC
  exact ⟨by rw [Below.heap_alloc _ _ _ (by simp; omega), Below.heap_alloc _ _ _ (by simp), hA], by rw [Below.heap_alloc _ _ _ (by simp), hB], hC⟩
theorem below1 (w : World) (A : Obj) : Below w.heap.size w (w.alloc A) := (Below.refl _ _).alloc (Nat.le_refl _) _
theorem below2 (w : World) (A B : Obj) : Below w.heap.size w ((w.alloc A).alloc B) := (below1 w A).alloc (by simp) _
theorem below3 (w : World) (A B C : Obj) : Below w.heap.size w (((w.alloc A).alloc B).alloc C) := (below2 w A B).alloc (by simp; omega) _
theorem blk1 (w : World) (A : Obj) : (w.alloc A).heap[w.heap.size]? = some A := heap_alloc_new w A
theorem blk2 (w : World) (A B : Obj) : ((w.alloc A).alloc B).heap[w.heap.size]? = some A ∧ ((w.alloc A).alloc B).heap[w.heap.size + 1]? = some B := by
  have hB := heap_alloc_new (w.alloc A) B
  simp only [World.size_alloc] at hB
  exact ⟨by rw [Below.heap_alloc _ _ _ (by simp), heap_alloc_new w A], hB⟩
/-- Behind a call from a world that had laid blocks. -/
theorem below_call {w W w1 : World} (h : Below w.heap.size w W) (hb : Below W.heap.size W w1) : Below w.heap.size w w1 := h.trans (hb.mono h.size)
/-- The two cells of a block of two, and that they may be written. -/
theorem two_cells {w : World} {g : Nat} {u v : Value} {t : TypeId} (h : w.heap[g]? = some (.cells #[u, v] t (0, 0))) :
    w.cell? ⟨g, 0, none⟩ = some u ∧ w.cell? ⟨g, 1, none⟩ = some v ∧ w.frozen? ⟨g, 0, none⟩ = false ∧ w.frozen? ⟨g, 1, none⟩ = false :=
  ⟨cell_of_row w g 0 _ t (0, 0) h, cell_of_row w g 1 _ t (0, 0) h, by simp [World.frozen?, h], by simp [World.frozen?, h]⟩
theorem set_far {w : World} {g : Nat} {o : Obj} (h : w.heap[g]? = some o) {p : Addr} (hp : g ≠ p.block) {u : Value} : (w.setCell p u).heap[g]? = some o := (Below.heap_setCell w p u g hp).trans h
theorem set_at {w : World} {g i : Nat} {cs : Array Value} {t : TypeId} (h : w.heap[g]? = some (.cells cs t (0, 0))) {u : Value} : (w.setCell ⟨g, i, none⟩ u).heap[g]? = some (.cells (cs.setIfInBounds i u) t (0, 0)) := by
  simp [World.setCell, Array.getElem?_modify, h]
theorem set_0 {w : World} {g : Nat} {a b u : Value} {t : TypeId} (h : w.heap[g]? = some (.cells #[a, b] t (0, 0))) : (w.setCell ⟨g, 0, none⟩ u).heap[g]? = some (.cells #[u, b] t (0, 0)) := set_at h
theorem set_1 {w : World} {g : Nat} {a b u : Value} {t : TypeId} (h : w.heap[g]? = some (.cells #[a, b] t (0, 0))) : (w.setCell ⟨g, 1, none⟩ u).heap[g]? = some (.cells #[a, u] t (0, 0)) := set_at h
theorem heap_drew {w : World} {g : Nat} {o : Option Obj} (h : w.heap[g]? = o) : w.drew.heap[g]? = o := h
theorem heap_drewN {w : World} {g n : Nat} {o : Option Obj} (h : w.heap[g]? = o) : (w.drewN n).heap[g]? = o := h
theorem owns_form {w : World} {base : Nat} {e : TypeId} {size n : Nat} {v : Value} {xs : List Value} (h : w.ownsRow base e size v n xs) : ∃ (A : Option Addr) (c : Nat), v = .slice A n c ∧ (0 < n → ∃ g, A = some ⟨g, 0, none⟩) := by
  obtain ⟨_, h2⟩ := h
  rcases h2 with ⟨rfl, rfl⟩ | ⟨g, cap, cur, rfl, _⟩
  · exact ⟨none, 0, rfl, fun h => absurd h (by omega)⟩
  · exact ⟨_, cap, rfl, fun _ => ⟨g, rfl⟩⟩

end Go.Proofs.YtmgeknghgngliaaGreatDoor

/-
  Walks over the addresses' texts: what the library's tables and errors are asked for; number.
-/
namespace Go.Proofs.YtmgeknghgngliaaGreatDoor
open Go Go.RowKit Go.Sort

/-- What a world holds of the library's variables: as the initialisers lay them. -/
structure Env (w : World) : Prop where
  tab : Lib.TabIs Tryz.prog w "internal/strconv.uint64pow10" .u64 Lib.pow10Tab
  syn : ∃ tp p, w.cell? ⟨0, 0, none⟩ = some (.iface tp p)
  ran : ∃ tp p, w.cell? ⟨1, 0, none⟩ = some (.iface tp p)
  len : ∃ m, w.cell? ⟨3, 0, none⟩ = some (.int .i64 m)
theorem Env.below {w w' : World} (h : Env w) (hb : Below w.heap.size w w') : Env w' := by
  obtain ⟨tp, p, hs⟩ := h.syn
  obtain ⟨tq, q, hr⟩ := h.ran
  obtain ⟨m, hl⟩ := h.len
  exact ⟨Lib.tabBelow_of_tabIs h.tab w' hb, ⟨tp, p, (hb.cell (World.block_lt_of_cell? _ _ hs)).trans hs⟩, ⟨tq, q, (hb.cell (World.block_lt_of_cell? _ _ hr)).trans hr⟩, ⟨m, (hb.cell (World.block_lt_of_cell? _ _ hl)).trans hl⟩⟩

theorem below_of_atoi {w w' : World} {t : TypeId} (h : w' = w ∨ ∃ s, w' = Lib.bytesWorld w t s) : Below w.heap.size w w' := by
  rcases h with rfl | ⟨s, rfl⟩
  · exact Below.refl _ _
  · exact Lib.bytesWorld_below _ _ _
theorem below_of_grow {w w' : World} (h : ∃ k os, w' = grow (w.drewN k) os) : Below w.heap.size w w' := by
  obtain ⟨q, os, rfl⟩ := h
  refine ⟨rfl, rfl, rfl, by simp [grow, World.drewN], fun i hi => ?_⟩
  show ((w.heap ++ os)[i]?) = w.heap[i]?
  rw [Array.getElem?_append_left hi]
theorem str_mk (s : ByteArray) : (⟨s.data.toList.toArray⟩ : ByteArray) = s := by cases s; rfl
theorem list_of (s : ByteArray) : s.toList = s.data.toList := Go.ByteArray.toList_eq s

set_option maxHeartbeats 1000000 in
theorem number_any (s : ByteArray) (m : Nat) (hm : m < 1000) (w : World) (hE : Env w) (hlim : s.size ≤ 281474976710656) :
    Calls Tryz.prog 94 #[.string s, .int .i64 m] w fun e w' => (∃ x : Int, e = .returned (.tuple #[.int .i64 x, .bool (readB s.data.toList m).isSome]) ∧ ∀ n, readB s.data.toList m = some n → x = n) ∧ Below w.heap.size w w' := by
  cases ha : Lib.atoiAll s.data.toList with
  | range =>
    have hr := Lib.hid (readB_no (l := s.data.toList) (m := m) (by omega) (fun v => by rw [ha]; simp))
    obtain ⟨tp, p, hs⟩ := hE.ran
    have HA := Lib.hid ha
    clear ha
    go_enter Tryz.func94, Tryz.ntmps94
    go_wp2_with fail
    refine (Tryz.strconv_Atoi_range s hlim HA.out _ w hs (Or.inr ⟨_, _, rfl⟩)).mono ?_
    rintro e w1 ⟨N, rfl, _, _, hb⟩
    go_wp2
    go_ret2
    exact ⟨⟨_, by rw [hr.out]; rfl, by rw [hr.out]; simp⟩, hb⟩
  | ok v =>
    have HN := Lib.hid (fun h => readB_neg (l := s.data.toList) (m := m) (by omega) ha h)
    have HY := Lib.hid (fun h0 h1 h => readB_yes (l := s.data.toList) (m := m) (v := v) h0 h1 h)
    have HA := Lib.hid ha
    clear ha
    by_cases h0 : 0 ≤ v
    · by_cases h1 : v ≤ m
      · by_cases h2 : Lib.decDigits v.toNat = s.data.toList
        · have hr := Lib.hid (HY.out h0 h1 h2)
          have hd : decide (v ≤ (m : Int)) = true := by simp; omega
          have HV := Lib.hid (show (v.toNat : Int) = v by omega)
          have HI := Lib.hid (show Lib.itoa v = s.data.toList by unfold Lib.itoa; rw [if_neg (by omega)]; exact h2)
          clear HN HY h2
          go_enter Tryz.func94, Tryz.ntmps94
          go_wp2_with fail
          refine (Tryz.strconv_Atoi_ok s (by omega) v HA.out w).mono ?_
          rintro e w1 ⟨rfl, hw⟩
          have hb := below_of_atoi hw
          clear hw
          have hE1 := (hE.below hb).tab
          go_wp2_with fail
          refine (Tryz.strconv_Itoa v (by omega) (by omega) w1 hE1).mono ?_
          rintro e w2 ⟨rfl, hw⟩
          have hb2 := hb.trans ((below_of_grow hw).mono hb.size)
          clear hw
          rw [HI.out, str_mk]
          go_wp2
          go_ret2
          exact ⟨⟨_, by rw [hr.out]; rfl, fun n hn => by rw [hr.out] at hn; injection hn with hn; have := HV.out; omega⟩, hb2⟩
        · have hr := Lib.hid (HN.out (fun h => h2 h.2.2))
          have hd : decide (v ≤ (m : Int)) = true := by simp; omega
          have HI := Lib.hid (show ¬ Lib.itoa v = s.data.toList by unfold Lib.itoa; rw [if_neg (by omega)]; exact h2)
          clear HN HY h2
          go_enter Tryz.func94, Tryz.ntmps94
          go_wp2_with fail
          refine (Tryz.strconv_Atoi_ok s (by omega) v HA.out w).mono ?_
          rintro e w1 ⟨rfl, hw⟩
          have hb := below_of_atoi hw
          clear hw
          have hE1 := (hE.below hb).tab
          go_wp2_with fail
          refine (Tryz.strconv_Itoa v (by omega) (by omega) w1 hE1).mono ?_
          rintro e w2 ⟨rfl, hw⟩
          have hb2 := hb.trans ((below_of_grow hw).mono hb.size)
          clear hw
          have hq : (Lib.itoa v == s.toList) = false := by
            rw [list_of]; simpa using HI.out
          go_wp2
          go_ret2
          exact ⟨⟨_, by rw [hr.out]; rfl, by rw [hr.out]; simp⟩, hb2⟩
      · have hr := Lib.hid (HN.out (fun h => h1 h.2.1))
        clear HN HY
        have hd : decide (v ≤ (m : Int)) = false := by simp; omega
        go_enter Tryz.func94, Tryz.ntmps94
        go_wp2_with fail
        refine (Tryz.strconv_Atoi_ok s (by omega) v HA.out w).mono ?_
        rintro e w1 ⟨rfl, hw⟩
        have hb := below_of_atoi hw
        clear hw
        go_wp2
        go_ret2
        exact ⟨⟨_, by rw [hr.out]; rfl, by rw [hr.out]; simp⟩, hb⟩
    · have hr := Lib.hid (HN.out (fun h => h0 h.1))
      clear HN HY
      go_enter Tryz.func94, Tryz.ntmps94
      go_wp2_with fail
      refine (Tryz.strconv_Atoi_ok s (by omega) v HA.out w).mono ?_
      rintro e w1 ⟨rfl, hw⟩
      have hb := below_of_atoi hw
      clear hw
      go_wp2
      go_ret2
      exact ⟨⟨_, by rw [hr.out]; rfl, by rw [hr.out]; simp⟩, hb⟩

  | _ =>
    have hr := Lib.hid (readB_no (l := s.data.toList) (m := m) (by omega) (fun v => by rw [ha]; simp))
    obtain ⟨tp, p, hs⟩ := hE.syn
    have HA := Lib.hid ha
    clear ha
    go_enter Tryz.func94, Tryz.ntmps94
    go_wp2_with fail
    refine (Tryz.strconv_Atoi_syntax s hlim HA.out _ w hs (Or.inr ⟨_, _, rfl⟩)).mono ?_
    rintro e w1 ⟨N, rfl, _, _, hb⟩
    go_wp2
    go_ret2
    exact ⟨⟨_, by rw [hr.out]; rfl, by rw [hr.out]; simp⟩, hb⟩
/-- The address's numbers so far. -/
def accB (p : List (List UInt8)) : Nat → Option Nat
  | 0 => some 0
  | k + 1 => match accB p k, (p[k]?).bind (readB · 255) with
    | some a, some n => some (a * 256 + n)
    | _, _ => none
theorem accB_step {p : List (List UInt8)} {k a n : Nat} {l : List UInt8} (h : accB p k = some a) (hl : p[k]? = some l) (hn : readB l 255 = some n) : accB p (k + 1) = some (a * 256 + n) := by
  rw [accB, h, hl, Option.bind_some, hn]
theorem accB_lt {p : List (List UInt8)} : ∀ {k a : Nat}, accB p k = some a → k ≤ 4 → a < 256 ^ k
  | 0, a, h, _ => by injection h with h; omega
  | k + 1, a, h, hk => by
    rw [accB] at h
    split at h
    · rename_i b n h1 h2
      obtain ⟨l, hl, h3⟩ := Option.bind_eq_some_iff.1 h2
      have := accB_lt h1 (by omega)
      have := readB_le h3
      injection h with h
      rw [Nat.pow_succ]
      omega
    · cases h
theorem parseB_four {l : List UInt8} (h : (pieces 46 l).length = 4) : parseB l = accB (pieces 46 l) 4 := by
  unfold parseB
  match hp : pieces 46 l, h with
  | [a, b, c, d], _ =>
    simp only [accB, List.getElem?_cons_zero, List.getElem?_cons_succ, Option.bind_some]
    cases readB a 255 <;> cases readB b 255 <;> cases readB c 255 <;> cases readB d 255 <;> simp
theorem parseB_not {l : List UInt8} (h : (pieces 46 l).length ≠ 4) : parseB l = none := by
  unfold parseB
  split
  · rename_i hp; rw [hp] at h; exact absurd rfl h
  · rfl
theorem accB_none {p : List (List UInt8)} {k : Nat} {l : List UInt8} (hl : p[k]? = some l) (hn : readB l 255 = none) : ∀ j, k < j → accB p j = none
  | 0, h => by omega
  | j + 1, h => by
    rw [accB]
    rcases (show k = j ∨ k < j by omega) with rfl | h1
    · rw [hl, Option.bind_some, hn]
      cases accB p k <;> rfl
    · rw [accB_none hl hn j h1]
/-- What Parse hands back. -/
def adE (o : Option Nat) : Int := if o.isSome then 0 else 4
def adV (o : Option Nat) : Int := ((o.getD 0 : Nat) : Int)
end Go.Proofs.YtmgeknghgngliaaGreatDoor

/-
  The last step of every law of this seat (its row lists variables): the call answered true and turned nothing that was there; what the list gives; the witness.
-/
namespace Go.Proofs.YtmgeknghgngliaaGreatDoor
open Go Go.ChangeShapes Go.WideShapes Go.ChangeAt Go.RowKit

theorem own : ownKnob Tryz.prog.godebug = none := by kernel_rfl
theorem laidOut : laidOutB Tryz.prog = true := by kernel_rfl

theorem args_below {H : Type} {enc : TypeId × Value → H} {P : Program} (hl : laidOutB P = true) {W W' : World} (hb : Below W.heap.size W W') :
    ∀ (ts : List TypeId) (vs : List Value) (ds : List (DataW H)) (ps : List MemPlace), (∀ t ∈ ts, P.readableRec t = true ∧ t < P.types.size) →
      DataW.TrodAll enc P W 0 (fun _ => true) true ts vs ds ps → (∀ x ∈ ps, x.block < W.heap.size) → DataW.TrodAll enc P W' 0 (fun b => decide (b < W.heap.size)) true ts vs ds ps
  | [], vs, ds, ps, _, h, _ => by
    cases vs <;> cases ds <;> simp_all [DataW.TrodAll]
  | t :: ts, vs, ds, ps, hts, h, hlt => by
    obtain ⟨v, vs', d, ds', p, q, rfl, rfl, rfl, h1, h2⟩ := trodAll_cons h
    have ht := hts t (List.mem_cons_self ..)
    exact trodAll_cons_mk (Below.trod hl ht.1 ht.2 h1 hb (fun x hx => hlt x (List.mem_append_left _ hx)))
      (args_below hl hb ts vs' ds' q (fun t ht => hts t (List.mem_cons_of_mem _ ht)) h2 (fun x hx => hlt x (List.mem_append_right _ hx)))

/-- What a law's statement asks of the world behind the call. -/
theorem law_post {H : Type} {enc : TypeId × Value → H} {P : Program} (hl : laidOutB P = true) {s : ChangeSpec} {f : Func} {W W' : World} {args : Array Value} {ds : List (DataW H)} {before : List MemPlace}
    (hW : DataW.Whole enc P f.params.toList s.vars false W args.toList ds [] before) (hv : s.vars = []) (hr : f.resultTypes = #[4]) (hbool : P.underlying 4 = some .bool)
    (hts : ∀ t ∈ f.params.toList, P.readableRec t = true ∧ t < P.types.size) (hs : (s.fn H (ds ++ [])).results = [.lit (.bool true)] ∧ (s.fn H (ds ++ [])).args = ds ∧ (s.fn H (ds ++ [])).vars = [])
    (hb : Below W.heap.size W W') : s.post enc P f false true false false W args (.bool true) W' := by
  have hW0 := hW
  obtain ⟨p, q, hA, hV, rfl, _, _⟩ := hW
  have hlt : ∀ x ∈ p ++ q, x.block < W.heap.size := fun x hx => hW0.lt x hx
  refine ⟨_, _, _, [], p, [], hW0, ?_, ?_, ?_, hb.frame _, fun h => by cases h⟩
  · rw [hs.1, hr]
    exact trodAll_mk1 (shut_bool hbool true)
  · rw [hs.2.1]
    exact args_below hl hb _ _ _ _ hts hA (fun x hx => hlt x (List.mem_append_left _ hx))
  · rw [hv, hs.2.2]; rfl


/-- 'returnsInHanded_of_change_and', the world's shape handed on. -/
theorem returns_and_shaped {H : Type} {enc : TypeId × Value → H} {a : Assume} {C : Checked} {os : Os} {f : FuncId} {fn : Func} {s : ChangeSpec} {conds : List PathCond} {apart fresh handsOn again : Bool} {X : World → Array Value → Prop}
    (hX : ∀ (w w' : World) (args : Array Value), w.heap = w'.heap → X w args → X w' args)
    (own : ownKnob C.prog.godebug = none) (started : os.Started) (noInit : C.prog.inits.idxOf? f = none) (hfn : C.prog.funcs[f]? = some fn)
    (witness : ∃ (w : World) (tape : Tape) (i : Input), w.os = os ∧ (w.forCall tape i).Shaped C.prog ∧ i.vars = [] ∧ Input.okWide C.prog (w.forCall tape i) .any w.heap.size f i ∧
      ((s.pre enc C.prog fn conds apart (w.forCall tape i).memory i.args ∧ X (w.forCall tape i).memory i.args) ∧ sizedMet enc C.prog fn (OpenSpec.ofChange s) apart (w.forCall tape i).memory i.args) ∧ a.holds C.prog (lone (Frame.enter C.prog f i.args .normal) [] (w.forCall tape i)))
    (contract : ∀ (W : World) (base : Nat) (args : Array Value) (ds gs : List (DataW H)) (before : List MemPlace),
      (∀ (j : Nat) t v, fn.params[j]? = some t → args[j]? = some v → Value.okWide C.prog W .any base t v) →
      DataW.Whole enc C.prog fn.params.toList s.vars apart W args.toList ds gs before →
      (DataW.weightsEach C.prog (fn.params.toList ++ s.plain.varTypes C.prog) (ds ++ gs)).all (· ≤ reachBytes) = true → X W args →
      W.ShapedOpen C.prog →
      Calls C.prog f args W fun e W' => ∃ v, e = .returned v ∧ s.post enc C.prog fn apart fresh handsOn again W args v W') :
    ReturnsInHanded a C os f .any (fun w args => (s.pre enc C.prog fn conds apart w args ∧ X w args) ∧ sizedMet enc C.prog fn (OpenSpec.ofChange s) apart w args) (s.post enc C.prog fn apart fresh handsOn again) := by
  refine returnsInHanded_of_calls own started noInit witness ?_
  intro w tape i _ hsh _ hok hpre _
  obtain ⟨_, _, _, fn', hfn', _, _, _, _, hval⟩ := hok
  have e : fn' = fn := Option.some.inj (hfn'.symm.trans hfn)
  subst e
  obtain ⟨⟨⟨ds, gs, before, hw, _⟩, hx⟩, hz⟩ := hpre
  have hw' := DataW.Whole.of_heap (w' := w.forCall tape i) (by rfl) hw
  refine (contract (w.forCall tape i) w.heap.size i.args ds gs before hval hw' (hz.weights hw) (hX _ _ _ (by rfl) hx) hsh).mono fun e W' ⟨v, he, hp⟩ => ?_
  subst he
  exact ChangeSpec.post_blind hp

/-! ### What the list gives -/
def theLaid : List (String × DataW Unit) := [("math/bits.deBruijn32tab", Rows.laid_math_bits_deBruijn32tab), ("math/bits.deBruijn64tab", Rows.laid_math_bits_deBruijn64tab), ("internal/strconv.uint64pow10", Rows.laid_internal_strconv_uint64pow10), ("unicode/utf8.acceptRanges", Rows.laid_unicode_utf8_acceptRanges), ("strconv.ErrRange", Rows.laid_strconv_ErrRange), ("strconv.ErrSyntax", Rows.laid_strconv_ErrSyntax), ("unicode/utf8.first", Rows.laid_unicode_utf8_first)]
theorem laid_plain (w : World) : laidMetH Tryz.prog theLaid w = laidMet Tryz.prog theLaid w := MakeChecks.laidMetH_plain _ _ _ (by kernel_rfl)
theorem gPow : Tryz.prog.globalNamed "internal/strconv.uint64pow10" = some 2 := by kernel_rfl
theorem gPowType : (Tryz.prog.globals[2]?).map (·.type) = some 186 := by kernel_rfl
theorem uPow : Tryz.prog.underlying 186 = some (.array 20 80) := by kernel_rfl
theorem gSyn : Tryz.prog.globalNamed "strconv.ErrSyntax" = some 0 := by kernel_rfl
theorem gSynType : (Tryz.prog.globals[0]?).map (·.type) = some 82 := by kernel_rfl
theorem gRan : Tryz.prog.globalNamed "strconv.ErrRange" = some 1 := by kernel_rfl
theorem gRanType : (Tryz.prog.globals[1]?).map (·.type) = some 82 := by kernel_rfl
theorem starErr : "*" ++ "errors.errorString" = "*errors.errorString" := by decide
theorem rowErr (u : TypeId) (h : Tryz.prog.typeName? 3 u = some "*errors.errorString") : u = 197 :=
  typeName_ptr_named (nm := "errors.errorString") (by rw [starErr]; kernel_rfl) (by kernel_rfl) (by decide) u (by rw [starErr]; exact h)
theorem env_of {W : World} (hL : laidMetH Tryz.prog theLaid W) (hS : W.ShapedOpen Tryz.prog) : Env W := by
  rw [laid_plain] at hL
  have h3 := hL.tail.tail
  have h5 := h3.tail.tail
  obtain ⟨a1, s1, hv1, -, -, -⟩ := laid_sentinel h5 gRan gRanType Tryz.underlying82 rowErr Tryz.underlying197 Tryz.underlying199 rfl rfl Tryz.underlying9 (by kernel_rfl) (by kernel_rfl)
  obtain ⟨a2, s2, hv2, -, -, -⟩ := laid_sentinel h5.tail gSyn gSynType Tryz.underlying82 rowErr Tryz.underlying197 Tryz.underlying199 rfl rfl Tryz.underlying9 (by kernel_rfl) (by kernel_rfl)
  refine ⟨Lib.tabIs_of_head (zs := Lib.pow10Tab) gPow gPowType uPow Tryz.underlying80 (by kernel_rfl) (by kernel_rfl) h3, ⟨197, .pointer (some a2), ?_⟩, ⟨197, .pointer (some a1), ?_⟩, ?_⟩
  · have h0 := World.var?_cell gSyn hv2 0
    simpa using h0
  · have h0 := World.var?_cell gRan hv1 0
    simpa using h0
  · exact cell_of_shapedOpen_int (g := 3) (t := 3) (zero := #[.int .i64 0]) hS (of_decide_eq_true (by kernel_rfl)) (by kernel_rfl) rfl (by kernel_rfl) (by kernel_rfl) Tryz.underlying3
noncomputable def laidWorld (os : Os) : World := World.laidAll Tryz.prog os theLaid
theorem laidWorld_met (os : Os) (args : Array Value) : laidMetH Tryz.prog theLaid ((laidWorld os).forCall (fun _ _ => 0) ⟨#[], args, []⟩).memory := by
  rw [laid_plain]
  exact laidMet_laidAll _ (by kernel_rfl) (by kernel_rfl)
end Go.Proofs.YtmgeknghgngliaaGreatDoor

/-
  Small general lemmas, the second text: lists of structs as cells, the first place at which a predicate holds.
-/
namespace Go.Proofs.YtmgeknghgngliaaGreatDoor
open Go Go.RowKit

theorem flat_get {α : Type} (enc : α → List Value) (k : Nat) (hk : ∀ x, (enc x).length = k) : ∀ (L : List α) (j i : Nat) (x : α) (v : Value), L[j]? = some x → (enc x)[i]? = some v → (L.flatMap enc)[j * k + i]? = some v
  | [], j, i, x, v, h, _ => by simp at h
  | y :: L, 0, i, x, v, h, hv => by
    simp at h; subst h
    have hi : i < (enc y).length := (List.getElem?_eq_some_iff.1 hv).1
    rw [List.flatMap_cons, Nat.zero_mul, Nat.zero_add, List.getElem?_append_left hi]
    exact hv
  | y :: L, j + 1, i, x, v, h, hv => by
    rw [List.flatMap_cons, List.getElem?_append_right (by rw [hk]; rw [Nat.add_mul]; omega), hk]
    have := flat_get enc k hk L j i x v (by simpa using h) hv
    rw [show (j + 1) * k + i - k = j * k + i by rw [Nat.add_mul]; omega]
    exact this
theorem flat_len {α : Type} (enc : α → List Value) (k : Nat) (hk : ∀ x, (enc x).length = k) (L : List α) : (L.flatMap enc).length = L.length * k := by
  induction L with
  | nil => simp
  | cons y L ih => rw [List.flatMap_cons, List.length_append, ih, hk, List.length_cons, Nat.add_mul]; omega
theorem get_bang {α : Type} [Inhabited α] {L : List α} {j : Nat} (h : j < L.length) : L[j]? = some L[j]! := by
  rw [List.getElem!_eq_getElem?_getD, List.getElem?_eq_getElem h]; rfl
/-- The cells of a slice of structs, as the shelf's contracts ask them. -/
theorem Rd.cells {α : Type} [Inhabited α] {enc : α → List Value} {k : Nat} (hk : ∀ x, (enc x).length = k) {w : World} {L : List α} {b off : Nat}
    (hcell : ∀ j u, (L.flatMap enc)[j]? = some u → w.cell? ⟨b, off + j, none⟩ = some u) :
    ∀ j, j < L.length → ∀ i v, (enc L[j]!)[i]? = some v → w.cell? ⟨b, off + j * k + i, none⟩ = some v := by
  intro j hj i v hv
  have := hcell _ _ (flat_get enc k hk L j i _ v (get_bang hj) hv)
  rw [Nat.add_assoc]; exact this

theorem rt2 {v v' u u' : Value} (h : v = v' ∧ u = u') : Ending.returned (.tuple #[v, u]) = .returned (.tuple #[v', u']) := by rw [h.1, h.2]
theorem vi {k : IntKind} {a b : Int} (h : a = b) : Value.int k a = .int k b := by rw [h]
theorem vb {a b : Bool} (h : a = b) : Value.bool a = .bool b := by rw [h]
/-- The first place at which p holds; -1: there is none. -/
def idxP {α : Type} [Inhabited α] (p : α → Bool) (L : List α) : Int := Lib.idxBy (fun _ y => p y) L default
theorem idxP_nil {α : Type} [Inhabited α] (p : α → Bool) : idxP p [] = -1 := rfl
theorem idxP_miss {α : Type} [Inhabited α] (p : α → Bool) (L : List α) (h : ∀ (j : Nat) (x : α), L[j]? = some x → p x = false) : idxP p L = -1 := by
  have := Lib.idxBy_miss (fun _ y => p y) L L.length default (fun j hj => h j _ (get_bang hj))
  rw [List.take_length] at this
  exact this
theorem idxP_hit {α : Type} [Inhabited α] (p : α → Bool) (L : List α) (k : Nat) (x : α) (hx : L[k]? = some x) (h : p x = true) (hne : ∀ (j : Nat) (y : α), j < k → L[j]? = some y → p y = false) : idxP p L = k := by
  have hk : k < L.length := (List.getElem?_eq_some_iff.1 hx).1
  have e : L[k]! = x := by
    have := get_bang hk
    rw [hx] at this
    injection this with this
    exact this.symm
  have := Lib.idxBy_hit (fun _ y => p y) L L.length k default hk (Nat.le_refl _) (by rw [e]; exact h) (fun j hj => hne j _ hj (get_bang (by omega)))
  rw [List.take_length] at this
  exact this
theorem idxP_cases {α : Type} [Inhabited α] (p : α → Bool) (L : List α) : (idxP p L = -1 ∧ ∀ (j : Nat) (x : α), L[j]? = some x → p x = false) ∨ ∃ (k : Nat) (x : α), idxP p L = k ∧ L[k]? = some x ∧ p x = true ∧ ∀ (j : Nat) (y : α), j < k → L[j]? = some y → p y = false := by
  by_cases h : ∃ (k : Nat) (x : α), L[k]? = some x ∧ p x = true
  · obtain ⟨k, hk⟩ := h
    have : ∃ (k : Nat) (x : α), L[k]? = some x ∧ p x = true ∧ ∀ (j : Nat) (y : α), j < k → L[j]? = some y → p y = false := by
      induction k using Nat.strongRecOn with
      | ind k ih =>
        by_cases h2 : ∃ j : Nat, j < k ∧ ∃ y, L[j]? = some y ∧ p y = true
        · obtain ⟨j, hj, hy⟩ := h2
          exact ih j hj hy
        · obtain ⟨x, hx, hp⟩ := hk
          refine ⟨k, x, hx, hp, fun j y hj hy => ?_⟩
          cases hpy : p y with
          | false => rfl
          | true => exact absurd ⟨j, hj, y, hy, hpy⟩ h2
    obtain ⟨k, x, hx, hp, hne⟩ := this
    exact .inr ⟨k, x, idxP_hit p L k x hx hp hne, hx, hp, hne⟩
  · refine .inl ⟨?_, ?_⟩
    · exact idxP_miss p L (fun j x hx => by
        cases hp : p x with
        | false => rfl
        | true => exact absurd ⟨j, x, hx, hp⟩ h)
    · intro j x hx
      cases hp : p x with
      | false => rfl
      | true => exact absurd ⟨j, x, hx, hp⟩ h

end Go.Proofs.YtmgeknghgngliaaGreatDoor

/-
  Sets of numbers as spans: the normal form is told by its members. No program in sight.
-/
namespace Go.Proofs.YtmgeknghgngliaaGreatDoor

structure SpanV where
  lo : Int
  hi : Int
  hlo : 0 ≤ lo ∧ lo < 4294967296
  hhi : 0 ≤ hi ∧ hi < 4294967296
instance : Inhabited SpanV := ⟨⟨0, 0, by omega, by omega⟩⟩
theorem SpanV.eq {s t : SpanV} (h1 : s.lo = t.lo) (h2 : s.hi = t.hi) : s = t := by
  cases s; cases t; simp_all
def SpanV.inB (s : SpanV) (x : Int) : Bool := decide (s.lo ≤ x) && decide (x ≤ s.hi)
def hasB (L : List SpanV) (x : Int) : Bool := L.any fun s => s.inB x
theorem hasB_iff {L : List SpanV} {x : Int} : hasB L x = true ↔ ∃ s ∈ L, s.lo ≤ x ∧ x ≤ s.hi := by
  simp [hasB, SpanV.inB]
/-- The normal form: rising, none empty, none touching the next. -/
def NF : List SpanV → Prop
  | [] => True
  | s :: r => s.lo ≤ s.hi ∧ (∀ t ∈ r, s.hi + 1 < t.lo) ∧ NF r
theorem NF.ok {L : List SpanV} (h : NF L) : ∀ s ∈ L, s.lo ≤ s.hi := by
  induction L with
  | nil => intro s hs; simp at hs
  | cons t r ih =>
    intro s hs
    rcases List.mem_cons.1 hs with rfl | hs
    · exact h.1
    · exact ih h.2.2 s hs
theorem NF.head {s : SpanV} {r : List SpanV} (h : NF (s :: r)) {x : Int} (hx : hasB (s :: r) x = true) : s.lo ≤ x := by
  obtain ⟨t, ht, h1, h2⟩ := hasB_iff.1 hx
  rcases List.mem_cons.1 ht with rfl | ht
  · exact h1
  · have := h.2.1 t ht
    have := h.1
    omega
theorem NF.unique : ∀ {A B : List SpanV}, NF A → NF B → (∀ x, hasB A x = hasB B x) → A = B
  | [], [], _, _, _ => rfl
  | [], t :: q, _, hB, h => by
    have := h t.lo
    have h2 : hasB (t :: q) t.lo = true := hasB_iff.2 ⟨t, List.mem_cons_self .., by omega, hB.1⟩
    rw [h2] at this
    simp [hasB] at this
  | s :: r, [], hA, _, h => by
    have := h s.lo
    have h2 : hasB (s :: r) s.lo = true := hasB_iff.2 ⟨s, List.mem_cons_self .., by omega, hA.1⟩
    rw [h2] at this
    simp [hasB] at this
  | s :: r, t :: q, hA, hB, h => by
    have a1 : hasB (s :: r) s.lo = true := hasB_iff.2 ⟨s, List.mem_cons_self .., by omega, hA.1⟩
    have b1 : hasB (t :: q) t.lo = true := hasB_iff.2 ⟨t, List.mem_cons_self .., by omega, hB.1⟩
    have l1 := hB.head ((h s.lo).symm.trans a1)
    have l2 := hA.head ((h t.lo).trans b1)
    have hlo : s.lo = t.lo := by omega
    have key : ∀ {s t : SpanV} {r q : List SpanV}, NF (s :: r) → NF (t :: q) → s.lo = t.lo → (∀ x, hasB (s :: r) x = hasB (t :: q) x) → ¬ s.hi < t.hi := by
      intro s t r q hA hB hlo h hlt
      have h1 : hasB (t :: q) (s.hi + 1) = true := hasB_iff.2 ⟨t, List.mem_cons_self .., by have := hA.1; omega, by omega⟩
      obtain ⟨u, hu, h2, h3⟩ := hasB_iff.1 ((h _).trans h1)
      rcases List.mem_cons.1 hu with rfl | hu
      · omega
      · have := hA.2.1 u hu; omega
    have n1 := key hA hB hlo h
    have n2 := key hB hA hlo.symm (fun x => (h x).symm)
    have e : s = t := SpanV.eq hlo (by omega)
    subst e
    have rest : ∀ {s : SpanV} {r : List SpanV}, NF (s :: r) → ∀ x, hasB r x = (hasB (s :: r) x && decide (s.hi < x)) := by
      intro s r hA x
      rw [Bool.eq_iff_iff, Bool.and_eq_true, decide_eq_true_eq, hasB_iff, hasB_iff]
      constructor
      · rintro ⟨u, hu, h1, h2⟩
        have := hA.2.1 u hu
        exact ⟨⟨u, List.mem_cons_of_mem _ hu, h1, h2⟩, by omega⟩
      · rintro ⟨⟨u, hu, h1, h2⟩, h3⟩
        rcases List.mem_cons.1 hu with rfl | hu
        · omega
        · exact ⟨u, hu, h1, h2⟩
    rw [NF.unique hA.2.2 hB.2.2 (fun x => by rw [rest hA x, rest hB x, h x])]

end Go.Proofs.YtmgeknghgngliaaGreatDoor

/-
  Sets of numbers as spans: the list in normal form with given members; one step of the merging. No program in sight.
-/
namespace Go.Proofs.YtmgeknghgngliaaGreatDoor

open Classical in
/-- The normal form of a set of numbers (if it has one). -/
noncomputable def theSet (P : Int → Bool) : List SpanV := if h : ∃ R : List SpanV, NF R ∧ ∀ x, hasB R x = P x then h.choose else []
theorem theSet_eq {P : Int → Bool} {R : List SpanV} (h : NF R) (hm : ∀ x, hasB R x = P x) : theSet P = R := by
  have he : ∃ R : List SpanV, NF R ∧ ∀ x, hasB R x = P x := ⟨R, h, hm⟩
  unfold theSet
  rw [dif_pos he]
  exact NF.unique he.choose_spec.1 h (fun x => (he.choose_spec.2 x).trans (hm x).symm)
theorem inB_iff {s : SpanV} {x : Int} : s.inB x = true ↔ s.lo ≤ x ∧ x ≤ s.hi := by simp [SpanV.inB]
theorem hasB_append (A B : List SpanV) (x : Int) : hasB (A ++ B) x = (hasB A x || hasB B x) := by simp [hasB]
theorem hasB_one (s : SpanV) (x : Int) : hasB [s] x = s.inB x := by simp [hasB]
theorem hasB_perm {A B : List SpanV} (h : A.Perm B) (x : Int) : hasB A x = hasB B x := by
  rw [Bool.eq_iff_iff, hasB_iff, hasB_iff]
  constructor
  · rintro ⟨s, hs, h1⟩; exact ⟨s, h.mem_iff.1 hs, h1⟩
  · rintro ⟨s, hs, h1⟩; exact ⟨s, h.mem_iff.2 hs, h1⟩
theorem NF.snoc : ∀ {A : List SpanV} {t : SpanV}, NF (A ++ [t]) ↔ NF A ∧ t.lo ≤ t.hi ∧ ∀ a ∈ A, a.hi + 1 < t.lo
  | [], t => by simp [NF]
  | s :: A, t => by
    have ih := @NF.snoc A t
    show (s.lo ≤ s.hi ∧ (∀ u ∈ A ++ [t], s.hi + 1 < u.lo) ∧ NF (A ++ [t])) ↔ _
    rw [ih]
    constructor
    · rintro ⟨h1, h2, h3, h4, h5⟩
      refine ⟨⟨h1, fun u hu => h2 u (List.mem_append_left _ hu), h3⟩, h4, fun a ha => ?_⟩
      rcases List.mem_cons.1 ha with rfl | ha
      · exact h2 t (List.mem_append_right _ (List.mem_singleton.2 rfl))
      · exact h5 a ha
    · rintro ⟨⟨h1, h2, h3⟩, h4, h5⟩
      refine ⟨h1, fun u hu => ?_, h3, h4, fun a ha => h5 a (List.mem_cons_of_mem _ ha)⟩
      rcases List.mem_append.1 hu with hu | hu
      · exact h2 u hu
      · obtain rfl := List.mem_singleton.1 hu
        exact h5 s (List.mem_cons_self ..)
/-- A span that reaches farther. -/
def SpanV.reach (t s : SpanV) : SpanV := ⟨t.lo, max t.hi s.hi, t.hlo, by have := t.hhi; have := s.hhi; omega⟩
theorem merge_in {A : List SpanV} {t s : SpanV} (h : NF (A ++ [t])) (hs : s.lo ≤ s.hi) (hts : t.lo ≤ s.lo) (hm : s.lo ≤ t.hi + 1) :
    NF (A ++ [t.reach s]) ∧ ∀ x, hasB (A ++ [t.reach s]) x = (hasB (A ++ [t]) x || s.inB x) := by
  obtain ⟨h1, h2, h3⟩ := NF.snoc.1 h
  refine ⟨NF.snoc.2 ⟨h1, ?_, h3⟩, fun x => ?_⟩
  · show t.lo ≤ max t.hi s.hi
    omega
  · rw [hasB_append, hasB_append, hasB_one, hasB_one, Bool.or_assoc]
    congr 1
    rw [Bool.eq_iff_iff, Bool.or_eq_true, inB_iff, inB_iff, inB_iff]
    show (t.lo ≤ x ∧ x ≤ max t.hi s.hi) ↔ _
    omega
theorem merge_new {A : List SpanV} {t s : SpanV} (h : NF (A ++ [t])) (hs : s.lo ≤ s.hi) (hm : t.hi + 1 < s.lo) : NF (A ++ [t] ++ [s]) := by
  obtain ⟨h1, h2, h3⟩ := NF.snoc.1 h
  refine NF.snoc.2 ⟨h, hs, fun a ha => ?_⟩
  rcases List.mem_append.1 ha with ha | ha
  · have := h3 a ha; omega
  · obtain rfl := List.mem_singleton.1 ha
    exact hm

end Go.Proofs.YtmgeknghgngliaaGreatDoor

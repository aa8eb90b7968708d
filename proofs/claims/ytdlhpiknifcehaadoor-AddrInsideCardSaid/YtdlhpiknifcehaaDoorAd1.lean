/-
  Walks over the addresses' texts: what the library's tables and errors are asked for; number.
-/
import Derived.Test.YtdlhpiknifcehaaDoorDec
import Derived.Test.YtdlhpiknifcehaaDoorKit
import Derived.Test.YtdlhpiknifcehaaDoorShelf
import Derived.Lib.AppendIntMem
import Derived.Lib.SmallJoins
namespace Go.Proofs.YtdlhpiknifcehaaDoor
open Go Go.RowKit Go.Sort

/-- What a world holds of the library's variables: as the initialisers lay them. -/
structure Env (w : World) : Prop where
  tab : Lib.TabIs Tryd.prog w "internal/strconv.uint64pow10" .u64 Lib.pow10Tab
  syn : ∃ tp p, w.cell? ⟨1, 0, none⟩ = some (.iface tp p)
  ran : ∃ tp p, w.cell? ⟨2, 0, none⟩ = some (.iface tp p)
  len : ∃ m, w.cell? ⟨0, 0, none⟩ = some (.int .i64 m)
theorem Env.below {w w' : World} (h : Env w) (hb : Below w.heap.size w w') : Env w' := by
  obtain ⟨tp, p, hs⟩ := h.syn
  obtain ⟨tq, q, hr⟩ := h.ran
  obtain ⟨m, hl⟩ := h.len
  exact ⟨Lib.tabBelow_of_tabIs h.tab w' hb, ⟨tp, p, (hb.cell (World.block_lt_of_cell? _ _ hs)).trans hs⟩, ⟨tq, q, (hb.cell (World.block_lt_of_cell? _ _ hr)).trans hr⟩, ⟨m, (hb.cell (World.block_lt_of_cell? _ _ hl)).trans hl⟩⟩

theorem below_of_atoi {w w' : World} {t : TypeId} (h : w' = w ∨ ∃ s, w' = Lib.bytesWorld w t s) : Below w.heap.size w w' := by
  rcases h with rfl | ⟨s, rfl⟩
  · exact Below.refl _ _
  · exact Lib.bytesWorld_below _ _ _
theorem below_of_grow {w w' : World} (h : ∃ k os, w' = grow (w.drewN k) os) : Below w.heap.size w w' := by
  obtain ⟨q, os, rfl⟩ := h
  refine ⟨rfl, rfl, rfl, by simp [grow, World.drewN], fun i hi => ?_⟩
  show ((w.heap ++ os)[i]?) = w.heap[i]?
  rw [Array.getElem?_append_left hi]
theorem str_mk (s : ByteArray) : (⟨s.data.toList.toArray⟩ : ByteArray) = s := by cases s; rfl
theorem list_of (s : ByteArray) : s.toList = s.data.toList := Go.ByteArray.toList_eq s

set_option maxHeartbeats 1000000 in
theorem number_any (s : ByteArray) (m : Nat) (hm : m < 1000) (w : World) (hE : Env w) (hlim : s.size ≤ 281474976710656) :
    Calls Tryd.prog 52 #[.string s, .int .i64 m] w fun e w' => (∃ x : Int, e = .returned (.tuple #[.int .i64 x, .bool (readB s.data.toList m).isSome]) ∧ ∀ n, readB s.data.toList m = some n → x = n) ∧ Below w.heap.size w w' := by
  cases ha : Lib.atoiAll s.data.toList with
  | range =>
    have hr := Lib.hid (readB_no (l := s.data.toList) (m := m) (by omega) (fun v => by rw [ha]; simp))
    obtain ⟨tp, p, hs⟩ := hE.ran
    have HA := Lib.hid ha
    clear ha
    go_enter Tryd.func52, Tryd.ntmps52
    go_wp2_with fail
    refine (Tryd.strconv_Atoi_range s hlim HA.out _ w hs (Or.inr ⟨_, _, rfl⟩)).mono ?_
    rintro e w1 ⟨N, rfl, _, _, hb⟩
    go_wp2
    go_ret2
    exact ⟨⟨_, by rw [hr.out]; rfl, by rw [hr.out]; simp⟩, hb⟩
  | ok v =>
    have HN := Lib.hid (fun h => readB_neg (l := s.data.toList) (m := m) (by omega) ha h)
    have HY := Lib.hid (fun h0 h1 h => readB_yes (l := s.data.toList) (m := m) (v := v) h0 h1 h)
    have HA := Lib.hid ha
    clear ha
    by_cases h0 : 0 ≤ v
    · by_cases h1 : v ≤ m
      · by_cases h2 : Lib.decDigits v.toNat = s.data.toList
        · have hr := Lib.hid (HY.out h0 h1 h2)
          have hd : decide (v ≤ (m : Int)) = true := by simp; omega
          have HV := Lib.hid (show (v.toNat : Int) = v by omega)
          have HI := Lib.hid (show Lib.itoa v = s.data.toList by unfold Lib.itoa; rw [if_neg (by omega)]; exact h2)
          clear HN HY h2
          go_enter Tryd.func52, Tryd.ntmps52
          go_wp2_with fail
          refine (Tryd.strconv_Atoi_ok s (by omega) v HA.out w).mono ?_
          rintro e w1 ⟨rfl, hw⟩
          have hb := below_of_atoi hw
          clear hw
          have hE1 := (hE.below hb).tab
          go_wp2_with fail
          refine (Tryd.strconv_Itoa v (by omega) (by omega) w1 hE1).mono ?_
          rintro e w2 ⟨rfl, hw⟩
          have hb2 := hb.trans ((below_of_grow hw).mono hb.size)
          clear hw
          rw [HI.out, str_mk]
          go_wp2
          go_ret2
          exact ⟨⟨_, by rw [hr.out]; rfl, fun n hn => by rw [hr.out] at hn; injection hn with hn; have := HV.out; omega⟩, hb2⟩
        · have hr := Lib.hid (HN.out (fun h => h2 h.2.2))
          have hd : decide (v ≤ (m : Int)) = true := by simp; omega
          have HI := Lib.hid (show ¬ Lib.itoa v = s.data.toList by unfold Lib.itoa; rw [if_neg (by omega)]; exact h2)
          clear HN HY h2
          go_enter Tryd.func52, Tryd.ntmps52
          go_wp2_with fail
          refine (Tryd.strconv_Atoi_ok s (by omega) v HA.out w).mono ?_
          rintro e w1 ⟨rfl, hw⟩
          have hb := below_of_atoi hw
          clear hw
          have hE1 := (hE.below hb).tab
          go_wp2_with fail
          refine (Tryd.strconv_Itoa v (by omega) (by omega) w1 hE1).mono ?_
          rintro e w2 ⟨rfl, hw⟩
          have hb2 := hb.trans ((below_of_grow hw).mono hb.size)
          clear hw
          have hq : (Lib.itoa v == s.toList) = false := by
            rw [list_of]; simpa using HI.out
          go_wp2
          go_ret2
          exact ⟨⟨_, by rw [hr.out]; rfl, by rw [hr.out]; simp⟩, hb2⟩
      · have hr := Lib.hid (HN.out (fun h => h1 h.2.1))
        clear HN HY
        have hd : decide (v ≤ (m : Int)) = false := by simp; omega
        go_enter Tryd.func52, Tryd.ntmps52
        go_wp2_with fail
        refine (Tryd.strconv_Atoi_ok s (by omega) v HA.out w).mono ?_
        rintro e w1 ⟨rfl, hw⟩
        have hb := below_of_atoi hw
        clear hw
        go_wp2
        go_ret2
        exact ⟨⟨_, by rw [hr.out]; rfl, by rw [hr.out]; simp⟩, hb⟩
    · have hr := Lib.hid (HN.out (fun h => h0 h.1))
      clear HN HY
      go_enter Tryd.func52, Tryd.ntmps52
      go_wp2_with fail
      refine (Tryd.strconv_Atoi_ok s (by omega) v HA.out w).mono ?_
      rintro e w1 ⟨rfl, hw⟩
      have hb := below_of_atoi hw
      clear hw
      go_wp2
      go_ret2
      exact ⟨⟨_, by rw [hr.out]; rfl, by rw [hr.out]; simp⟩, hb⟩

  | _ =>
    have hr := Lib.hid (readB_no (l := s.data.toList) (m := m) (by omega) (fun v => by rw [ha]; simp))
    obtain ⟨tp, p, hs⟩ := hE.syn
    have HA := Lib.hid ha
    clear ha
    go_enter Tryd.func52, Tryd.ntmps52
    go_wp2_with fail
    refine (Tryd.strconv_Atoi_syntax s hlim HA.out _ w hs (Or.inr ⟨_, _, rfl⟩)).mono ?_
    rintro e w1 ⟨N, rfl, _, _, hb⟩
    go_wp2
    go_ret2
    exact ⟨⟨_, by rw [hr.out]; rfl, by rw [hr.out]; simp⟩, hb⟩
/-- The address's numbers so far. -/
def accB (p : List (List UInt8)) : Nat → Option Nat
  | 0 => some 0
  | k + 1 => match accB p k, (p[k]?).bind (readB · 255) with
    | some a, some n => some (a * 256 + n)
    | _, _ => none
theorem accB_step {p : List (List UInt8)} {k a n : Nat} {l : List UInt8} (h : accB p k = some a) (hl : p[k]? = some l) (hn : readB l 255 = some n) : accB p (k + 1) = some (a * 256 + n) := by
  rw [accB, h, hl, Option.bind_some, hn]
theorem accB_lt {p : List (List UInt8)} : ∀ {k a : Nat}, accB p k = some a → k ≤ 4 → a < 256 ^ k
  | 0, a, h, _ => by injection h with h; omega
  | k + 1, a, h, hk => by
    rw [accB] at h
    split at h
    · rename_i b n h1 h2
      obtain ⟨l, hl, h3⟩ := Option.bind_eq_some_iff.1 h2
      have := accB_lt h1 (by omega)
      have := readB_le h3
      injection h with h
      rw [Nat.pow_succ]
      omega
    · cases h
theorem parseB_four {l : List UInt8} (h : (pieces 46 l).length = 4) : parseB l = accB (pieces 46 l) 4 := by
  unfold parseB
  match hp : pieces 46 l, h with
  | [a, b, c, d], _ =>
    simp only [accB, List.getElem?_cons_zero, List.getElem?_cons_succ, Option.bind_some]
    cases readB a 255 <;> cases readB b 255 <;> cases readB c 255 <;> cases readB d 255 <;> simp
theorem parseB_not {l : List UInt8} (h : (pieces 46 l).length ≠ 4) : parseB l = none := by
  unfold parseB
  split
  · rename_i hp; rw [hp] at h; exact absurd rfl h
  · rfl
theorem accB_none {p : List (List UInt8)} {k : Nat} {l : List UInt8} (hl : p[k]? = some l) (hn : readB l 255 = none) : ∀ j, k < j → accB p j = none
  | 0, h => by omega
  | j + 1, h => by
    rw [accB]
    rcases (show k = j ∨ k < j by omega) with rfl | h1
    · rw [hl, Option.bind_some, hn]
      cases accB p k <;> rfl
    · rw [accB_none hl hn j h1]
/-- What Parse hands back. -/
def adE (o : Option Nat) : Int := if o.isSome then 0 else 4
def adV (o : Option Nat) : Int := ((o.getD 0 : Nat) : Int)
end Go.Proofs.YtdlhpiknifcehaaDoor

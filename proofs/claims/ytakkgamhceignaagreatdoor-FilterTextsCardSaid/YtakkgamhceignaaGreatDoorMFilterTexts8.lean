/-
  Joined texts: FtText, Fu, SpMath, SpMath2, SpText, SpMath3, SpText2, TailQ, Ft0.
-/
import Derived.Test.YtakkgamhceignaaGreatDoorMFilterTexts5
import Derived.Test.YtakkgamhceignaaGreatDoorMFilterTexts7
import Derived.Test.YtakkgamhceignaaGreatDoorMFilterTexts1
import Derived.Lib.ItoaMem
import Derived.Lib.AppendIntMem
import Derived.Lib.Walk
import Derived.BigCall
import Derived.BigGuard
import Derived.Lib.JoinLaws
import Derived.StillTail
import Derived.Deep.QuietTactic
import Derived.BigQuiet
import Derived.Lib.QuietBelow
/-
  The text of a rule, and the rule of a text: plain laws; no walk.
-/
namespace Go.Proofs.YtakkgamhceignaaGreatDoor
open Go Go.RowKit Go.Sort

theorem pieces_joinL (c : UInt8) : ∀ (L : List (List UInt8)), L ≠ [] → (∀ x ∈ L, c ∉ x) → pieces c (Lib.join L [c]) = L
  | [], h, _ => absurd rfl h
  | [x], _, h => by rw [Lib.join_one]; exact pieces_none (h x (by simp))
  | x :: y :: r, _, h => by
    have e : Lib.join (x :: y :: r) [c] = x ++ c :: Lib.join (y :: r) [c] := by
      rw [Lib.join_cons, Lib.join_cons]
      simp [Lib.joinTail]
    rw [e, pieces_cons _ (h x (by simp)), pieces_joinL c (y :: r) (by simp) (fun z hz => h z (List.mem_cons_of_mem _ hz))]
def portT (lo hi : Int) : List UInt8 := Lib.decDigits lo.toNat ++ 45 :: Lib.decDigits hi.toNat
def permitW : List UInt8 := [112, 101, 114, 109, 105, 116]
def denyW : List UInt8 := [100, 101, 110, 121]
def anyW : List UInt8 := [97, 110, 121]
def whatT (b : Bool) : List UInt8 := if b then permitW else denyW
def protoT (p : Int) : List UInt8 := if 0 ≤ p then Lib.decDigits p.toNat else anyW
def prefT (a n : Int) : List UInt8 := (textP a.toNat n).data.toList
/-- A rule's words. -/
def RuleV.words (r : RuleV) : List (List UInt8) := [whatT r.permit, protoT r.proto, prefT r.sa r.sn, prefT r.da r.dn, portT r.sl r.sh, portT r.dl r.dh]
/-- A rule's text. -/
def RuleV.text (r : RuleV) : List UInt8 := Lib.join r.words [32]
theorem mayB_ok {r : RuleV} (h : mayB r = true) : -1 ≤ r.proto ∧ r.proto ≤ 255 ∧ chk r.sa r.sn = 0 ∧ chk r.da r.dn = 0 ∧ r.sl ≤ r.sh ∧ r.sh ≤ 65535 ∧ r.dl ≤ r.dh ∧ r.dh ≤ 65535 := by
  simpa [mayB, portsB, and_assoc] using h
theorem prefT_nat {a n : Int} (h : 0 ≤ n) : prefT a n = (textA a.toNat).data.toList ++ 47 :: Lib.decDigits n.toNat := by
  obtain ⟨k, rfl⟩ := Int.eq_ofNat_of_zero_le h
  unfold prefT
  rw [textP_list, Int.toNat_natCast]
theorem prefT_no {a n : Int} (h : 0 ≤ n) : (32 : UInt8) ∉ prefT a n := by
  rw [prefT_nat h]
  intro hm
  rw [List.mem_append, List.mem_cons] at hm
  rcases hm with hm | hm | hm
  · exact not_text (by decide) (by decide) _ hm
  · exact absurd hm (by decide)
  · exact not_dec (by decide) _ hm
theorem portT_no (lo hi : Int) : (32 : UInt8) ∉ portT lo hi := by
  unfold portT
  intro hm
  rw [List.mem_append, List.mem_cons] at hm
  rcases hm with hm | hm | hm
  · exact not_dec (by decide) _ hm
  · exact absurd hm (by decide)
  · exact not_dec (by decide) _ hm
theorem words_no {r : RuleV} (h : mayB r = true) : ∀ x ∈ r.words, (32 : UInt8) ∉ x := by
  obtain ⟨_, _, h3, h4, _⟩ := mayB_ok h
  have k3 := chk_ok h3
  have k4 := chk_ok h4
  intro x hx
  simp only [RuleV.words, List.mem_cons, List.not_mem_nil, or_false] at hx
  rcases hx with rfl | rfl | rfl | rfl | rfl | rfl
  · unfold whatT; split <;> decide
  · unfold protoT; split
    · exact not_dec (by decide) _
    · decide
  · exact prefT_no k3.1
  · exact prefT_no k4.1
  · exact portT_no _ _
  · exact portT_no _ _
theorem text_words {r : RuleV} (h : mayB r = true) : pieces 32 r.text = r.words := pieces_joinL 32 _ (by simp [RuleV.words]) (words_no h)
/-- What is read of the words. -/
def permR (w : List UInt8) : Bool := decide (w = permitW)
def protoR (w : List UInt8) : Option Int := if w = anyW then some (-1) else match Lib.parseUintB 8 w with | .ok n => some n | _ => none
def protoD (w : List UInt8) : Option Int := if w = anyW then some (-1) else if rdV w 255 < 0 then none else some (rdV w 255)
def endsR (w : List UInt8) : Int × Int :=
  match Lib.parseUintB 16 (Lib.cut w [45]).1, Lib.parseUintB 16 (Lib.cut w [45]).2.1 with
  | .ok a, .ok b => (a, b)
  | _, _ => (1, 0)
theorem permR_what (b : Bool) : permR (whatT b) = b := by cases b <;> decide
theorem dec_any (n : Nat) : Lib.decDigits n ≠ anyW := by
  intro h
  have := decDigits_all n
  rw [h] at this
  exact absurd this (by decide)
theorem protoR_T {p : Int} (h0 : -1 ≤ p) (h1 : p ≤ 255) : protoR (protoT p) = some p := by
  unfold protoR protoT
  by_cases h : 0 ≤ p
  · rw [if_pos h, if_neg (dec_any _), uint8_digits (by omega)]
    simp; omega
  · rw [if_neg h, if_pos rfl]
    simp; omega
theorem protoD_T {p : Int} (h0 : -1 ≤ p) (h1 : p ≤ 255) : protoD (protoT p) = some p := by
  unfold protoD protoT
  by_cases h : 0 ≤ p
  · have e : rdV (Lib.decDigits p.toNat) 255 = p := by
      rw [rdV_some (readB_some.2 ⟨rfl, by omega⟩)]
      omega
    rw [if_pos h, if_neg (dec_any _), e, if_neg (by omega)]
  · rw [if_neg h, if_pos rfl]
    simp; omega
theorem endsR_T {lo hi : Int} (h0 : 0 ≤ lo) (h1 : lo ≤ hi) (h2 : hi ≤ 65535) : endsR (portT lo hi) = (lo, hi) := by
  unfold endsR portT
  rw [cut_hit1 _ (not_dec (by decide) _)]
  simp only [uint16_digits (n := lo.toNat) (by omega), uint16_digits (n := hi.toNat) (by omega)]
  rw [Int.toNat_of_nonneg h0, Int.toNat_of_nonneg (by omega)]
theorem endsR_lt (w : List UInt8) : 0 ≤ (endsR w).1 ∧ (endsR w).1 < 65536 ∧ 0 ≤ (endsR w).2 ∧ (endsR w).2 < 65536 := by
  unfold endsR
  split
  · rename_i a b h1 h2
    have := uint16_le h1
    have := uint16_le h2
    dsimp only
    omega
  · decide
/-- What the document's words read: the numbers, and whether they are any. -/
def portsD (w : List UInt8) : (Int × Int) × Bool :=
  if (Lib.cut w [45]).2.2 = true then ((rdV (Lib.cut w [45]).1 65535 % 4294967296, rdV (Lib.cut w [45]).2.1 65535 % 4294967296), decide (0 ≤ rdV (Lib.cut w [45]).1 65535) && decide (0 ≤ rdV (Lib.cut w [45]).2.1 65535)) else ((0, 0), false)
theorem portsD_T {lo hi : Int} (h0 : 0 ≤ lo) (h1 : lo ≤ hi) (h2 : hi ≤ 65535) : portsD (portT lo hi) = ((lo, hi), true) := by
  unfold portsD portT
  rw [cut_hit1 _ (not_dec (by decide) _)]
  have e1 : rdV (Lib.decDigits lo.toNat) 65535 = lo := by
    rw [rdV_some (readB_some.2 ⟨rfl, by omega⟩)]
    omega
  have e2 : rdV (Lib.decDigits hi.toNat) 65535 = hi := by
    rw [rdV_some (readB_some.2 ⟨rfl, by omega⟩)]
    omega
  simp only [e1, e2, if_true]
  rw [Int.emod_eq_of_lt h0 (by omega), Int.emod_eq_of_lt (by omega) (by omega)]
  simp
  omega
theorem rdV_le (l : List UInt8) (m : Nat) : -1 ≤ rdV l m ∧ rdV l m ≤ m := by
  unfold rdV
  split
  · rename_i n h
    have := readB_le h
    omega
  · omega
theorem portsD_lt (w : List UInt8) : 0 ≤ (portsD w).1.1 ∧ (portsD w).1.1 < 4294967296 ∧ 0 ≤ (portsD w).1.2 ∧ (portsD w).1.2 < 4294967296 := by
  unfold portsD
  split
  · dsimp only
    omega
  · decide
theorem ppO_T {a n : Int} (h0 : 0 ≤ a) (h1 : a < 4294967296) (h : chk a n = 0) : ppA (prefT a n) = a ∧ ppN (prefT a n) = n ∧ ppE (prefT a n) = 0 := by
  obtain ⟨k0, k1, _⟩ := chk_ok h
  have e := prefix_text a.toNat n.toNat (by omega) (by omega)
  rw [Int.toNat_of_nonneg k0] at e
  have hy := pp_yes (l := prefT a n) (a := a.toNat) (n := n.toNat) e (by rw [Int.toNat_of_nonneg k0, Int.toNat_of_nonneg h0]; exact h)
  rw [hy.1, hy.2.1, hy.2.2]
  omega
theorem ppA_lt (l : List UInt8) : 0 ≤ ppA l ∧ ppA l < 4294967296 := by
  rcases pp_cases l with h | ⟨a, n, _, h2, _, h4, _⟩
  · unfold ppA ppE at *
    split
    · omega
    · rename_i a n hO
      rw [hO] at h
      dsimp only at h
      rw [if_neg h]
      omega
  · rw [h2]; omega
theorem ppN_range (l : List UInt8) : 0 ≤ ppN l ∧ ppN l ≤ 32 := by
  rcases pp_cases l with h | ⟨a, n, _, _, h3, _, h5, _⟩
  · unfold ppN ppE at *
    split
    · omega
    · rename_i a n hO
      rw [hO] at h
      dsimp only at h
      rw [if_neg h]
      omega
  · rw [h3]; omega
theorem rule_ext {r q : RuleV} (h0 : r.permit = q.permit) (h1 : r.proto = q.proto) (h2 : r.sa = q.sa) (h3 : r.sn = q.sn) (h4 : r.da = q.da) (h5 : r.dn = q.dn) (h6 : r.sl = q.sl) (h7 : r.sh = q.sh) (h8 : r.dl = q.dl) (h9 : r.dh = q.dh) : r = q := by
  cases r; cases q; simp_all
/-- What the words of a rule's text are read to. -/
structure ReadsTo (r : RuleV) (p0 p1 p2 p3 p4 p5 : List UInt8) : Prop where
  permit : permR p0 = r.permit
  proto : protoR p1 = some r.proto
  protoD : protoD p1 = some r.proto
  sa : ppA p2 = r.sa
  sn : ppN p2 = r.sn
  se : ppE p2 = 0
  da : ppA p3 = r.da
  dn : ppN p3 = r.dn
  de : ppE p3 = 0
  sp : endsR p4 = (r.sl, r.sh)
  dp : endsR p5 = (r.dl, r.dh)
  spD : portsD p4 = ((r.sl, r.sh), true)
  dpD : portsD p5 = ((r.dl, r.dh), true)
theorem reads_to {r : RuleV} {l p0 p1 p2 p3 p4 p5 : List UInt8} (h : mayB r = true) (hl : r.text = l) (hp : pieces 32 l = [p0, p1, p2, p3, p4, p5]) : ReadsTo r p0 p1 p2 p3 p4 p5 := by
  have hw := text_words h
  rw [hl, hp] at hw
  unfold RuleV.words at hw
  injection hw with e0 hw
  injection hw with e1 hw
  injection hw with e2 hw
  injection hw with e3 hw
  injection hw with e4 hw
  injection hw with e5 hw
  subst e0 e1 e2 e3 e4 e5
  obtain ⟨k0, k1, k2, k3, k4, k5, k6, k7⟩ := mayB_ok h
  have a1 := ppO_T r.hsa.1 r.hsa.2 k2
  have a2 := ppO_T r.hda.1 r.hda.2 k3
  exact ⟨permR_what _, protoR_T k0 k1, protoD_T k0 k1, a1.1, a1.2.1, a1.2.2, a2.1, a2.2.1, a2.2.2, endsR_T r.hsl.1 k4 k5, endsR_T r.hdl.1 k6 k7, portsD_T r.hsl.1 k4 k5, portsD_T r.hdl.1 k6 k7⟩
theorem reads_len {r : RuleV} {l : List UInt8} (h : mayB r = true) (hl : r.text = l) : (pieces 32 l).length = 6 := by
  rw [← hl, text_words h]
  rfl
theorem six {α : Type} {L : List α} (h : L.length = 6) : ∃ a b c d e f, L = [a, b, c, d, e, f] := by
  match L, h with
  | [a, b, c, d, e, f], _ => exact ⟨a, b, c, d, e, f, rfl⟩
theorem rule_inj {r q : RuleV} (h : mayB r = true) (hq : mayB q = true) (e : r.text = q.text) : r = q := by
  obtain ⟨p0, p1, p2, p3, p4, p5, hp⟩ := six (reads_len h rfl)
  have a := reads_to h rfl hp
  have b := reads_to hq e.symm hp
  have s1 := a.sp.symm.trans b.sp
  have s2 := a.dp.symm.trans b.dp
  injection s1 with s1 s3
  injection s2 with s2 s4
  have e1 := a.proto.symm.trans b.proto
  injection e1 with e1
  exact rule_ext (a.permit.symm.trans b.permit) e1 (a.sa.symm.trans b.sa) (a.sn.symm.trans b.sn) (a.da.symm.trans b.da) (a.dn.symm.trans b.dn) s1 s3 s2 s4
open Classical in
/-- The rule that a text is the text of. -/
noncomputable def frO (l : List UInt8) : Option RuleV := if h : ∃ r : RuleV, mayB r = true ∧ r.text = l then some h.choose else none
theorem frO_text {r : RuleV} (h : mayB r = true) : frO r.text = some r := by
  have he : ∃ q : RuleV, mayB q = true ∧ q.text = r.text := ⟨r, h, rfl⟩
  unfold frO
  rw [dif_pos he, rule_inj he.choose_spec.1 h he.choose_spec.2]
theorem frO_some {l : List UInt8} {r : RuleV} (h : frO l = some r) : mayB r = true ∧ r.text = l := by
  unfold frO at h
  split at h
  · rename_i he
    injection h with h
    rw [← h]
    exact he.choose_spec
  · cases h
theorem frO_no {l : List UInt8} (h : ∀ r : RuleV, mayB r = true → r.text = l → False) : frO l = none := by
  cases e : frO l with
  | none => rfl
  | some r => exact (h r (frO_some e).1 (frO_some e).2).elim
theorem frO_len {l : List UInt8} (h : (pieces 32 l).length ≠ 6) : frO l = none := frO_no fun _ h1 h2 => h (reads_len h1 h2)
/-- A rule as the program's words, or the document's, were read to. -/
structure Cand (c : RuleV) (p0 p2 p3 : List UInt8) : Prop where
  permit : c.permit = permR p0
  sa : c.sa = ppA p2
  sn : c.sn = ppN p2
  da : c.da = ppA p3
  dn : c.dn = ppN p3
theorem frO_cand {l p0 p1 p2 p3 p4 p5 : List UInt8} {c : RuleV} (hp : pieces 32 l = [p0, p1, p2, p3, p4, p5]) (hc : Cand c p0 p2 p3) (h1 : protoR p1 = some c.proto) (h2 : endsR p4 = (c.sl, c.sh)) (h3 : endsR p5 = (c.dl, c.dh)) :
    frO l = if ppE p2 = 0 ∧ ppE p3 = 0 ∧ mayB c = true ∧ c.text = l then some c else none := by
  split
  · rename_i h
    rw [← h.2.2.2]
    exact frO_text h.2.2.1
  · rename_i h
    refine frO_no fun r hr ht => h ?_
    have a := reads_to hr ht hp
    have s1 := a.sp.symm.trans h2
    have s2 := a.dp.symm.trans h3
    injection s1 with s1 s3
    injection s2 with s2 s4
    have e1 := a.proto.symm.trans h1
    injection e1 with e1
    obtain rfl : r = c := rule_ext (a.permit.symm.trans hc.permit.symm) e1 (a.sa.symm.trans hc.sa.symm) (a.sn.symm.trans hc.sn.symm) (a.da.symm.trans hc.da.symm) (a.dn.symm.trans hc.dn.symm) s1 s3 s2 s4
    exact ⟨a.se, a.de, hr, ht⟩
theorem frO_candD {l p0 p1 p2 p3 p4 p5 : List UInt8} {c : RuleV} (hp : pieces 32 l = [p0, p1, p2, p3, p4, p5]) (hc : Cand c p0 p2 p3) (h1 : protoD p1 = some c.proto) {u v : Bool} (h2 : portsD p4 = ((c.sl, c.sh), u)) (h3 : portsD p5 = ((c.dl, c.dh), v)) :
    frO l = if ppE p2 = 0 ∧ ppE p3 = 0 ∧ u = true ∧ v = true ∧ mayB c = true ∧ c.text = l then some c else none := by
  split
  · rename_i h
    rw [← h.2.2.2.2.2]
    exact frO_text h.2.2.2.2.1
  · rename_i h
    refine frO_no fun r hr ht => h ?_
    have a := reads_to hr ht hp
    have s1 := a.spD.symm.trans h2
    have s2 := a.dpD.symm.trans h3
    injection s1 with s1 u1
    injection s1 with s1 s3
    injection s2 with s2 u2
    injection s2 with s2 s4
    have e1 := a.protoD.symm.trans h1
    injection e1 with e1
    obtain rfl : r = c := rule_ext (a.permit.symm.trans hc.permit.symm) e1 (a.sa.symm.trans hc.sa.symm) (a.sn.symm.trans hc.sn.symm) (a.da.symm.trans hc.da.symm) (a.dn.symm.trans hc.dn.symm) s1 s3 s2 s4
    exact ⟨a.se, a.de, u1.symm, u2.symm, hr, ht⟩
theorem frO_proto {l p0 p1 p2 p3 p4 p5 : List UInt8} (hp : pieces 32 l = [p0, p1, p2, p3, p4, p5]) (h1 : protoR p1 = none) : frO l = none := frO_no fun r hr ht => by
  have := (reads_to hr ht hp).proto
  rw [h1] at this
  cases this
theorem frO_protoD {l p0 p1 p2 p3 p4 p5 : List UInt8} (hp : pieces 32 l = [p0, p1, p2, p3, p4, p5]) (h1 : protoD p1 = none) : frO l = none := frO_no fun r hr ht => by
  have := (reads_to hr ht hp).protoD
  rw [h1] at this
  cases this
/-- What Parse answers. -/
noncomputable def frV (l : List UInt8) : RuleV := (frO l).getD default
noncomputable def frE (l : List UInt8) : Int := if (frO l).isSome then 0 else 4
theorem fr_none {l : List UInt8} (h : frO l = none) : frV l = default ∧ frE l = 4 := by unfold frV frE; rw [h]; exact ⟨rfl, rfl⟩
theorem fr_some {l : List UInt8} {r : RuleV} (h : frO l = some r) : frV l = r ∧ frE l = 0 := by unfold frV frE; rw [h]; exact ⟨rfl, rfl⟩
/-- What Text answers. -/
def RuleV.told (r : RuleV) : List UInt8 := if mayB r then r.text else []
def RuleV.toldE (r : RuleV) : Int := if mayB r then 0 else 121
theorem told_yes {r : RuleV} (h : mayB r = true) : r.told = r.text ∧ r.toldE = 0 := by unfold RuleV.told RuleV.toldE; rw [if_pos h, if_pos h]; exact ⟨rfl, rfl⟩
theorem told_no {r : RuleV} (h : mayB r = false) : r.told = [] ∧ r.toldE = 121 := by unfold RuleV.told RuleV.toldE; rw [h]; exact ⟨rfl, rfl⟩
def RuleV.agg (r : RuleV) : Value := .agg r.enc.toArray
end Go.Proofs.YtakkgamhceignaaGreatDoor

/-
  strconv.FormatUint at base 10: the number's decimal digits.
-/
namespace Go.Proofs.YtakkgamhceignaaGreatDoor
open Go Go.RowKit Go.Lib Go.Sort

set_option maxRecDepth 100000 in
set_option maxHeartbeats 4000000 in
theorem fmtInner_any (u : Nat) (hu64 : u < 18446744073709551616) (w : World) (htab : Lib.TabIs Tryz.prog w "internal/strconv.uint64pow10" .u64 Lib.pow10Tab) :
    Calls Tryz.prog 104 #[.int .u64 u, .int .i64 10] w fun e w' => e = .returned (.string ⟨(Lib.decDigits u).toArray⟩) ∧ ∃ k os, w' = grow (w.drewN k) os := by
  by_cases hs : u < 100
  · have hsm := Tryz.internal_strconv_small u hs w
    have hI : (u : Int) < 100 := by omega
    go_enter Tryz.func104, Tryz.ntmps104
    go_wp2_with fail
    refine hsm.mono ?_
    rintro e w' ⟨rfl, rfl⟩
    go_wp2
    go_ret
    exact ⟨rfl, 0, #[], by simp [World.drewN_zero]⟩
  · have hI : ¬ (u : Int) < 100 := by omega
    have hu1 : 1 ≤ u := by omega
    have hnd20 : Lib.nDigits u ≤ 20 := by have := Lib.numDigits_eq u hu1 hu64; split at this <;> omega
    have hal : Tryz.prog.arrayLen 160 = 24 := by kernel_rfl
    have hsl : ∀ W, (Instr.sliceAt 160 (.pointer (some ⟨w.heap.size, 0, none⟩)) none (some (.int .i64 (Lib.nDigits u : Int))) none).run Tryz.prog W = .ok (.slice (some ⟨w.heap.size, 0, none⟩) (Lib.nDigits u) 24) W := fun W => by
      rw [run_sliceAt_array_h W 160 ⟨w.heap.size, 0, none⟩ (by kernel_rfl) .i64 (Lib.nDigits u : Int) (by omega) (by rw [hal]; omega)]
      go_simp
    have hH0 := Lib.holds_zero0 w 160 (Lib.nDigits u) (by omega)
    have hfmt := Tryz.internal_strconv_formatBase10 w.heap.size 0 24 u (Array.replicate (Lib.nDigits u) 0) (w.alloc (.cells Lib.zeros24 160)) hH0 (by rw [Array.size_replicate]; exact Lib.lt_pow_nDigits u) hu64 (by rw [Array.size_replicate]; omega)
    rw [Array.size_replicate] at hfmt
    have HH0 := Lib.hid hH0
    have hnum := Tryz.internal_strconv_numDigits u hu1 hu64 (w.alloc (.cells Lib.zeros24 160)) (Lib.tabIs_alloc htab _)
    clear hH0 hal
    go_enter Tryz.func104, Tryz.ntmps104
    go_wp2_with fail
    refine hnum.mono ?_
    rintro e w' ⟨rfl, rfl⟩
    go_wp2_with fail
    refine hfmt.mono ?_
    rintro e w' ⟨rfl, k, v', dk, rfl, hF⟩
    have hcv : (convert 124 9 (.slice (some ⟨w.heap.size, 0, none⟩) (Lib.nDigits u) 24)).run Tryz.prog ((putRow (fun (b : UInt8) => Value.int .u8 (b.toNat : Int)) (w.alloc (.cells Lib.zeros24 160)) w.heap.size 0 dk).drewN k) = .ok (.string ⟨(Lib.decDigits u).toArray⟩) ((putRow (fun (b : UInt8) => Value.int .u8 (b.toNat : Int)) (w.alloc (.cells Lib.zeros24 160)) w.heap.size 0 dk).drewN k) := by
      have h := run_convert_bytes_back (P := Tryz.prog) ((putRow (fun (b : UInt8) => Value.int .u8 (b.toNat : Int)) (w.alloc (.cells Lib.zeros24 160)) w.heap.size 0 dk).drewN k) 124 9 5 ⟨w.heap.size, 0, none⟩ 24 (Lib.decDigits u) Tryz.underlying124 Tryz.underlying5 Tryz.underlying9 (fun j hj => by
        rw [Lib.row_is_numeral hF j hj, Lib.add_plain, World.cell?_drewN]
        exact cell?_putRow (fun (b : UInt8) => Value.int .u8 (b.toNat : Int)) _ w.heap.size 0 _ dk HH0.out (by rw [hF.size, Array.size_replicate]) j (by rw [hF.size]; rw [Lib.decDigits_length] at hj; exact hj))
      rw [Lib.decDigits_length] at h
      exact h
    go_wp2
    go_ret
    obtain ⟨os, eo⟩ := Lib.fin_at w (.cells Lib.zeros24 160) dk k 0
    exact ⟨rfl, k, os, eo⟩
set_option maxRecDepth 100000 in
set_option maxHeartbeats 1000000 in
theorem fmtUint_any (u : Nat) (hu64 : u < 18446744073709551616) (w : World) (hE : Env w) :
    Calls Tryz.prog 59 #[.int .u64 u, .int .i64 10] w fun e w' => e = .returned (.string ⟨(Lib.decDigits u).toArray⟩) ∧ Below w.heap.size w w' := by
  go_enter Tryz.func59, Tryz.ntmps59
  go_wp2_with fail
  refine (fmtInner_any u hu64 w hE.tab).mono ?_
  rintro e w' ⟨rfl, h⟩
  go_wp2
  go_ret
  exact ⟨rfl, below_of_grow h⟩
end Go.Proofs.YtakkgamhceignaaGreatDoor

/-
  Sets of numbers as spans: the normal form is told by its members. No program in sight.
-/
namespace Go.Proofs.YtakkgamhceignaaGreatDoor

structure SpanV where
  lo : Int
  hi : Int
  hlo : 0 ≤ lo ∧ lo < 4294967296
  hhi : 0 ≤ hi ∧ hi < 4294967296
instance : Inhabited SpanV := ⟨⟨0, 0, by omega, by omega⟩⟩
theorem SpanV.eq {s t : SpanV} (h1 : s.lo = t.lo) (h2 : s.hi = t.hi) : s = t := by
  cases s; cases t; simp_all
def SpanV.inB (s : SpanV) (x : Int) : Bool := decide (s.lo ≤ x) && decide (x ≤ s.hi)
def hasB (L : List SpanV) (x : Int) : Bool := L.any fun s => s.inB x
theorem hasB_iff {L : List SpanV} {x : Int} : hasB L x = true ↔ ∃ s ∈ L, s.lo ≤ x ∧ x ≤ s.hi := by
  simp [hasB, SpanV.inB]
/-- The normal form: rising, none empty, none touching the next. -/
def NF : List SpanV → Prop
  | [] => True
  | s :: r => s.lo ≤ s.hi ∧ (∀ t ∈ r, s.hi + 1 < t.lo) ∧ NF r
theorem NF.ok {L : List SpanV} (h : NF L) : ∀ s ∈ L, s.lo ≤ s.hi := by
  induction L with
  | nil => intro s hs; simp at hs
  | cons t r ih =>
    intro s hs
    rcases List.mem_cons.1 hs with rfl | hs
    · exact h.1
    · exact ih h.2.2 s hs
theorem NF.head {s : SpanV} {r : List SpanV} (h : NF (s :: r)) {x : Int} (hx : hasB (s :: r) x = true) : s.lo ≤ x := by
  obtain ⟨t, ht, h1, h2⟩ := hasB_iff.1 hx
  rcases List.mem_cons.1 ht with rfl | ht
  · exact h1
  · have := h.2.1 t ht
    have := h.1
    omega
theorem NF.unique : ∀ {A B : List SpanV}, NF A → NF B → (∀ x, hasB A x = hasB B x) → A = B
  | [], [], _, _, _ => rfl
  | [], t :: q, _, hB, h => by
    have := h t.lo
    have h2 : hasB (t :: q) t.lo = true := hasB_iff.2 ⟨t, List.mem_cons_self .., by omega, hB.1⟩
    rw [h2] at this
    simp [hasB] at this
  | s :: r, [], hA, _, h => by
    have := h s.lo
    have h2 : hasB (s :: r) s.lo = true := hasB_iff.2 ⟨s, List.mem_cons_self .., by omega, hA.1⟩
    rw [h2] at this
    simp [hasB] at this
  | s :: r, t :: q, hA, hB, h => by
    have a1 : hasB (s :: r) s.lo = true := hasB_iff.2 ⟨s, List.mem_cons_self .., by omega, hA.1⟩
    have b1 : hasB (t :: q) t.lo = true := hasB_iff.2 ⟨t, List.mem_cons_self .., by omega, hB.1⟩
    have l1 := hB.head ((h s.lo).symm.trans a1)
    have l2 := hA.head ((h t.lo).trans b1)
    have hlo : s.lo = t.lo := by omega
    have key : ∀ {s t : SpanV} {r q : List SpanV}, NF (s :: r) → NF (t :: q) → s.lo = t.lo → (∀ x, hasB (s :: r) x = hasB (t :: q) x) → ¬ s.hi < t.hi := by
      intro s t r q hA hB hlo h hlt
      have h1 : hasB (t :: q) (s.hi + 1) = true := hasB_iff.2 ⟨t, List.mem_cons_self .., by have := hA.1; omega, by omega⟩
      obtain ⟨u, hu, h2, h3⟩ := hasB_iff.1 ((h _).trans h1)
      rcases List.mem_cons.1 hu with rfl | hu
      · omega
      · have := hA.2.1 u hu; omega
    have n1 := key hA hB hlo h
    have n2 := key hB hA hlo.symm (fun x => (h x).symm)
    have e : s = t := SpanV.eq hlo (by omega)
    subst e
    have rest : ∀ {s : SpanV} {r : List SpanV}, NF (s :: r) → ∀ x, hasB r x = (hasB (s :: r) x && decide (s.hi < x)) := by
      intro s r hA x
      rw [Bool.eq_iff_iff, Bool.and_eq_true, decide_eq_true_eq, hasB_iff, hasB_iff]
      constructor
      · rintro ⟨u, hu, h1, h2⟩
        have := hA.2.1 u hu
        exact ⟨⟨u, List.mem_cons_of_mem _ hu, h1, h2⟩, by omega⟩
      · rintro ⟨⟨u, hu, h1, h2⟩, h3⟩
        rcases List.mem_cons.1 hu with rfl | hu
        · omega
        · exact ⟨u, hu, h1, h2⟩
    rw [NF.unique hA.2.2 hB.2.2 (fun x => by rw [rest hA x, rest hB x, h x])]

end Go.Proofs.YtakkgamhceignaaGreatDoor

/-
  Sets of numbers as spans: the list in normal form with given members; one step of the merging. No program in sight.
-/
namespace Go.Proofs.YtakkgamhceignaaGreatDoor

open Classical in
/-- The normal form of a set of numbers (if it has one). -/
noncomputable def theSet (P : Int → Bool) : List SpanV := if h : ∃ R : List SpanV, NF R ∧ ∀ x, hasB R x = P x then h.choose else []
theorem theSet_eq {P : Int → Bool} {R : List SpanV} (h : NF R) (hm : ∀ x, hasB R x = P x) : theSet P = R := by
  have he : ∃ R : List SpanV, NF R ∧ ∀ x, hasB R x = P x := ⟨R, h, hm⟩
  unfold theSet
  rw [dif_pos he]
  exact NF.unique he.choose_spec.1 h (fun x => (he.choose_spec.2 x).trans (hm x).symm)
theorem inB_iff {s : SpanV} {x : Int} : s.inB x = true ↔ s.lo ≤ x ∧ x ≤ s.hi := by simp [SpanV.inB]
theorem hasB_append (A B : List SpanV) (x : Int) : hasB (A ++ B) x = (hasB A x || hasB B x) := by simp [hasB]
theorem hasB_one (s : SpanV) (x : Int) : hasB [s] x = s.inB x := by simp [hasB]
theorem hasB_perm {A B : List SpanV} (h : A.Perm B) (x : Int) : hasB A x = hasB B x := by
  rw [Bool.eq_iff_iff, hasB_iff, hasB_iff]
  constructor
  · rintro ⟨s, hs, h1⟩; exact ⟨s, h.mem_iff.1 hs, h1⟩
  · rintro ⟨s, hs, h1⟩; exact ⟨s, h.mem_iff.2 hs, h1⟩
theorem NF.snoc : ∀ {A : List SpanV} {t : SpanV}, NF (A ++ [t]) ↔ NF A ∧ t.lo ≤ t.hi ∧ ∀ a ∈ A, a.hi + 1 < t.lo
  | [], t => by simp [NF]
  | s :: A, t => by
    have ih := @NF.snoc A t
    show (s.lo ≤ s.hi ∧ (∀ u ∈ A ++ [t], s.hi + 1 < u.lo) ∧ NF (A ++ [t])) ↔ _
    rw [ih]
    constructor
    · rintro ⟨h1, h2, h3, h4, h5⟩
      refine ⟨⟨h1, fun u hu => h2 u (List.mem_append_left _ hu), h3⟩, h4, fun a ha => ?_⟩
      rcases List.mem_cons.1 ha with rfl | ha
      · exact h2 t (List.mem_append_right _ (List.mem_singleton.2 rfl))
      · exact h5 a ha
    · rintro ⟨⟨h1, h2, h3⟩, h4, h5⟩
      refine ⟨h1, fun u hu => ?_, h3, h4, fun a ha => h5 a (List.mem_cons_of_mem _ ha)⟩
      rcases List.mem_append.1 hu with hu | hu
      · exact h2 u hu
      · obtain rfl := List.mem_singleton.1 hu
        exact h5 s (List.mem_cons_self ..)
/-- A span that reaches farther. -/
def SpanV.reach (t s : SpanV) : SpanV := ⟨t.lo, max t.hi s.hi, t.hlo, by have := t.hhi; have := s.hhi; omega⟩
theorem merge_in {A : List SpanV} {t s : SpanV} (h : NF (A ++ [t])) (hs : s.lo ≤ s.hi) (hts : t.lo ≤ s.lo) (hm : s.lo ≤ t.hi + 1) :
    NF (A ++ [t.reach s]) ∧ ∀ x, hasB (A ++ [t.reach s]) x = (hasB (A ++ [t]) x || s.inB x) := by
  obtain ⟨h1, h2, h3⟩ := NF.snoc.1 h
  refine ⟨NF.snoc.2 ⟨h1, ?_, h3⟩, fun x => ?_⟩
  · show t.lo ≤ max t.hi s.hi
    omega
  · rw [hasB_append, hasB_append, hasB_one, hasB_one, Bool.or_assoc]
    congr 1
    rw [Bool.eq_iff_iff, Bool.or_eq_true, inB_iff, inB_iff, inB_iff]
    show (t.lo ≤ x ∧ x ≤ max t.hi s.hi) ↔ _
    omega
theorem merge_new {A : List SpanV} {t s : SpanV} (h : NF (A ++ [t])) (hs : s.lo ≤ s.hi) (hm : t.hi + 1 < s.lo) : NF (A ++ [t] ++ [s]) := by
  obtain ⟨h1, h2, h3⟩ := NF.snoc.1 h
  refine NF.snoc.2 ⟨h, hs, fun a ha => ?_⟩
  rcases List.mem_append.1 ha with ha | ha
  · have := h3 a ha; omega
  · obtain rfl := List.mem_singleton.1 ha
    exact hm

end Go.Proofs.YtakkgamhceignaaGreatDoor

/-
  The text of a set of numbers, and what is read of a text: no program in sight.
-/
namespace Go.Proofs.YtakkgamhceignaaGreatDoor

def SpanV.t (s : SpanV) : List UInt8 := if s.lo = s.hi then Lib.decDigits s.lo.toNat else Lib.decDigits s.lo.toNat ++ 45 :: Lib.decDigits s.hi.toNat
def joinC : List (List UInt8) → List UInt8
  | [] => []
  | [x] => x
  | x :: y :: r => x ++ 44 :: joinC (y :: r)
def setT (F : List SpanV) : List UInt8 := if F = [] then [45] else joinC (F.map SpanV.t)
theorem t_comma (s : SpanV) : (44 : UInt8) ∉ s.t := by
  unfold SpanV.t
  split
  · exact not_dec (by decide) _
  · intro h
    rw [List.mem_append, List.mem_cons] at h
    rcases h with h | h | h
    · exact not_dec (by decide) _ h
    · exact absurd h (by decide)
    · exact not_dec (by decide) _ h
theorem pieces_join : ∀ (L : List (List UInt8)), L ≠ [] → (∀ x ∈ L, (44 : UInt8) ∉ x) → pieces 44 (joinC L) = L
  | [], h, _ => absurd rfl h
  | [x], _, h => pieces_none (h x (by simp))
  | x :: y :: r, _, h => by
    rw [joinC, pieces_cons _ (h x (by simp)), pieces_join (y :: r) (by simp) (fun z hz => h z (List.mem_cons_of_mem _ hz))]
theorem setT_pieces {F : List SpanV} (h : F ≠ []) : pieces 44 (setT F) = F.map SpanV.t := by
  unfold setT
  rw [if_neg h]
  exact pieces_join _ (by simpa using h) (fun x hx => by
    obtain ⟨s, _, rfl⟩ := List.mem_map.1 hx
    exact t_comma s)
theorem uint32_digits {n : Nat} (h : n < 4294967296) : Lib.parseUintB 32 (Lib.decDigits n) = .ok n := uint_digits (by decide) (by rw [show (2 : Nat) ^ 32 - 1 = 4294967295 from rfl]; omega)
theorem uint32_le {l : List UInt8} {n : Nat} (h : Lib.parseUintB 32 l = .ok n) : n < 4294967296 := by
  have := Lib.parseUintB_le h
  have e : (2 : Nat) ^ 32 - 1 = 4294967295 := by decide
  omega
theorem index_none1 {c : UInt8} : ∀ {l : List UInt8}, c ∉ l → Lib.index l [c] = -1
  | [], _ => by simp [Lib.index]
  | x :: r, h => by
    rw [index_one, if_neg (fun e => h (by simp [e])), index_none1 (fun hm => h (List.mem_cons_of_mem _ hm)), if_pos rfl]
theorem cut_none1 {c : UInt8} {l : List UInt8} (h : c ∉ l) : Lib.cut l [c] = (l, [], false) := by
  unfold Lib.cut
  rw [index_none1 h, if_neg (by omega)]
/-- A word's two numbers. -/
def wordO (w : List UInt8) : Option (Nat × Nat) :=
  match Lib.parseUintB 32 (Lib.cut w [45]).1, Lib.parseUintB 32 (if (Lib.cut w [45]).2.2 then (Lib.cut w [45]).2.1 else (Lib.cut w [45]).1) with
  | .ok a, .ok b => if a ≤ b ∧ ((Lib.cut w [45]).2.2 = true → a ≠ b) then some (a, b) else none
  | _, _ => none
theorem wordO_t {s : SpanV} (h : s.lo ≤ s.hi) : wordO s.t = some (s.lo.toNat, s.hi.toNat) := by
  have := s.hlo
  have := s.hhi
  unfold wordO SpanV.t
  by_cases e : s.lo = s.hi
  · rw [if_pos e, ← e, cut_none1 (not_dec (by decide) _)]
    simp only [Bool.false_eq_true, if_false, uint32_digits (n := s.lo.toNat) (by omega)]
    simp
  · rw [if_neg e, cut_hit1 _ (not_dec (by decide) _)]
    simp only [if_true, uint32_digits (n := s.lo.toNat) (by omega), uint32_digits (n := s.hi.toNat) (by omega)]
    rw [if_pos ⟨by omega, fun _ => by omega⟩]
def SpanV.two (s : SpanV) : Nat × Nat := (s.lo.toNat, s.hi.toNat)
/-- The words' numbers. -/
def readL : List (List UInt8) → Option (List (Nat × Nat))
  | [] => some []
  | w :: r => match wordO w, readL r with
    | some x, some l => some (x :: l)
    | _, _ => none
theorem readL_t : ∀ (F : List SpanV), (∀ s ∈ F, s.lo ≤ s.hi) → readL (F.map SpanV.t) = some (F.map SpanV.two)
  | [], _ => rfl
  | s :: r, h => by
    rw [List.map_cons, readL, wordO_t (h s (by simp)), readL_t r (fun x hx => h x (List.mem_cons_of_mem _ hx))]
    rfl
/-- What is read of the text of a set in its form is that set. -/
theorem read_back {F : List SpanV} (h : F ≠ []) (hn : ∀ s ∈ F, s.lo ≤ s.hi) : readL (pieces 44 (setT F)) = some (F.map SpanV.two) := by
  rw [setT_pieces h, readL_t F hn]
theorem two_inj {s t : SpanV} (h : s.two = t.two) : s = t := by
  have h1 := s.hlo
  have h2 := s.hhi
  have h3 := t.hlo
  have h4 := t.hhi
  unfold SpanV.two at h
  injection h with e1 e2
  exact SpanV.eq (by omega) (by omega)
theorem map_two_inj : ∀ {A B : List SpanV}, A.map SpanV.two = B.map SpanV.two → A = B
  | [], [], _ => rfl
  | [], _ :: _, h => by simp at h
  | _ :: _, [], h => by simp at h
  | a :: A, b :: B, h => by
    rw [List.map_cons, List.map_cons] at h
    injection h with h1 h2
    rw [two_inj h1, map_two_inj h2]
/-- A list that a text was read to, and whose form has that text, is its form. -/
theorem read_form {l F : List SpanV} {s : List UInt8} (hs : s ≠ [45]) (hl : readL (pieces 44 s) = some (l.map SpanV.two)) (hF : ∀ x ∈ F, x.lo ≤ x.hi) (ht : setT F = s) : l = F := by
  have hne : F ≠ [] := fun e => hs (by rw [← ht, e]; rfl)
  have h := read_back hne hF
  rw [ht, hl] at h
  injection h with h
  exact map_two_inj h
/-- A word's two numbers as the document reads them: in their one spelling. -/
def wordD (w : List UInt8) : Option (Nat × Nat) :=
  match readB (Lib.cut w [45]).1 4294967295, readB (if (Lib.cut w [45]).2.2 then (Lib.cut w [45]).2.1 else (Lib.cut w [45]).1) 4294967295 with
  | some a, some b => if a ≤ b ∧ ((Lib.cut w [45]).2.2 = true → a ≠ b) then some (a, b) else none
  | _, _ => none
theorem read_uint {l : List UInt8} {n : Nat} (h : readB l 4294967295 = some n) : Lib.parseUintB 32 l = .ok n := by
  obtain ⟨h1, h2⟩ := readB_some.1 h
  rw [← h1]
  exact uint32_digits (by omega)
theorem wordD_O {w : List UInt8} {x : Nat × Nat} (h : wordD w = some x) : wordO w = some x := by
  unfold wordD at h
  unfold wordO
  split at h
  · rename_i a b h1 h2
    rw [read_uint h1, read_uint h2]
    exact h
  · cases h
theorem wordD_t {s : SpanV} (h : s.lo ≤ s.hi) : wordD s.t = some (s.lo.toNat, s.hi.toNat) := by
  have := s.hlo
  have := s.hhi
  have hr : ∀ n : Nat, n ≤ 4294967295 → readB (Lib.decDigits n) 4294967295 = some n := fun n hn => readB_some.2 ⟨rfl, hn⟩
  unfold wordD SpanV.t
  by_cases e : s.lo = s.hi
  · rw [if_pos e, ← e, cut_none1 (not_dec (by decide) _)]
    simp only [Bool.false_eq_true, if_false, hr s.lo.toNat (by omega)]
    simp
  · rw [if_neg e, cut_hit1 _ (not_dec (by decide) _)]
    simp only [if_true, hr s.lo.toNat (by omega), hr s.hi.toNat (by omega)]
    rw [if_pos ⟨by omega, fun _ => by omega⟩]
theorem wordO_ok {w : List UInt8} {x : Nat × Nat} (h : wordO w = some x) : x.1 ≤ x.2 ∧ x.2 < 4294967296 := by
  unfold wordO at h
  split at h
  · rename_i a b h1 h2
    split at h
    · rename_i hc
      injection h with h
      subst h
      exact ⟨hc.1, uint32_le h2⟩
    · cases h
  · cases h
def spanOf (x : Nat × Nat) (h : x.1 ≤ x.2 ∧ x.2 < 4294967296) : SpanV := ⟨x.1, x.2, by omega, by omega⟩
theorem spanOf_two (x : Nat × Nat) (h : x.1 ≤ x.2 ∧ x.2 < 4294967296) : (spanOf x h).two = x := by
  obtain ⟨a, b⟩ := x
  simp [spanOf, SpanV.two]
theorem readL_spans : ∀ {ws : List (List UInt8)} {l : List (Nat × Nat)}, readL ws = some l → ∃ L : List SpanV, l = L.map SpanV.two ∧ ∀ s ∈ L, s.lo ≤ s.hi
  | [], l, h => by
    injection h with h
    exact ⟨[], h.symm, by simp⟩
  | w :: r, l, h => by
    rw [readL] at h
    split at h
    · rename_i x l' h1 h2
      injection h with h
      subst h
      obtain ⟨L, hL, hk⟩ := readL_spans h2
      have hx := wordO_ok h1
      refine ⟨spanOf x hx :: L, ?_, ?_⟩
      · rw [List.map_cons, spanOf_two, hL]
      · intro s hs
        rcases List.mem_cons.1 hs with rfl | hs
        · show ((x.1 : Nat) : Int) ≤ x.2
          omega
        · exact hk s hs
    · cases h
def readD : List (List UInt8) → Option (List (Nat × Nat))
  | [] => some []
  | w :: r => match wordD w, readD r with
    | some x, some l => some (x :: l)
    | _, _ => none
theorem readD_L : ∀ {ws : List (List UInt8)} {l : List (Nat × Nat)}, readD ws = some l → readL ws = some l
  | [], l, h => h
  | w :: r, l, h => by
    rw [readD] at h
    split at h
    · rename_i x l' h1 h2
      rw [readL, wordD_O h1, readD_L h2]
      exact h
    · cases h
theorem readD_t : ∀ (F : List SpanV), (∀ s ∈ F, s.lo ≤ s.hi) → readD (F.map SpanV.t) = some (F.map SpanV.two)
  | [], _ => rfl
  | s :: r, h => by
    rw [List.map_cons, readD, wordD_t (h s (by simp)), readD_t r (fun x hx => h x (List.mem_cons_of_mem _ hx))]
    rfl
end Go.Proofs.YtakkgamhceignaaGreatDoor

/-
  Sets of numbers as spans: the merging of a sorted list; what is in both; what is in none. No program in sight.
-/
namespace Go.Proofs.YtakkgamhceignaaGreatDoor

theorem hasB_nil (x : Int) : hasB [] x = false := rfl
theorem hasB_take_succ {L : List SpanV} {j : Nat} {s : SpanV} (h : L[j]? = some s) (x : Int) : hasB (L.take (j + 1)) x = (hasB (L.take j) x || s.inB x) := by
  rw [List.take_add_one, h, hasB_append]
  show _ = (_ || s.inB x)
  congr 1
  simp [hasB]
/-- One step of the merging. -/
def mstep (O : List SpanV) (s : SpanV) : List SpanV :=
  match O.getLast? with
  | none => [s]
  | some t => if s.lo ≤ t.hi + 1 then O.dropLast ++ [t.reach s] else O ++ [s]
theorem mstep_nil (s : SpanV) : mstep [] s = [s] := rfl
theorem mstep_in {A : List SpanV} {t s : SpanV} (h : s.lo ≤ t.hi + 1) : mstep (A ++ [t]) s = A ++ [t.reach s] := by
  simp [mstep, h]
theorem mstep_new {A : List SpanV} {t s : SpanV} (h : ¬ s.lo ≤ t.hi + 1) : mstep (A ++ [t]) s = A ++ [t] ++ [s] := by
  simp [mstep, h]
def mfold (L : List SpanV) : List SpanV := L.foldl mstep []
theorem mfold_succ {L : List SpanV} {j : Nat} {s : SpanV} (h : L[j]? = some s) : mfold (L.take (j + 1)) = mstep (mfold (L.take j)) s := by
  rw [List.take_add_one, h]
  simp [mfold, List.foldl_append]
theorem snoc_cases {α : Type} (O : List α) : O = [] ∨ ∃ A t, O = A ++ [t] := by
  rcases List.eq_nil_or_concat O with h | ⟨A, t, h⟩
  · exact .inl h
  · exact .inr ⟨A, t, by simpa using h⟩
theorem mfold_ok {L : List SpanV} (hs : L.Pairwise (fun x y => x.lo ≤ y.lo)) (hv : ∀ s ∈ L, s.lo ≤ s.hi) :
    ∀ j, j ≤ L.length → NF (mfold (L.take j)) ∧ (∀ x, hasB (mfold (L.take j)) x = hasB (L.take j) x) ∧ ∀ t ∈ mfold (L.take j), ∀ s ∈ L.drop j, t.lo ≤ s.lo := by
  intro j
  induction j with
  | zero => intro _; exact ⟨trivial, fun x => rfl, fun t ht => by simp [mfold] at ht⟩
  | succ j ih =>
    intro hj
    obtain ⟨h1, h2, h3⟩ := ih (by omega)
    obtain ⟨s, hsj⟩ : ∃ s, L[j]? = some s := ⟨_, List.getElem?_eq_getElem (by omega)⟩
    have hsm : s ∈ L := List.mem_of_getElem? hsj
    have hd : L.drop j = s :: L.drop (j + 1) := by
      obtain ⟨hj', e⟩ := List.getElem?_eq_some_iff.1 hsj
      rw [List.drop_eq_getElem_cons hj', e]
    have hsrest : ∀ u ∈ L.drop (j + 1), s.lo ≤ u.lo := by
      have := hs.sublist (List.drop_sublist j L)
      rw [hd] at this
      exact (List.pairwise_cons.1 this).1
    have h3' : ∀ t ∈ mfold (L.take j), t.lo ≤ s.lo := fun t ht => h3 t ht s (by rw [hd]; exact List.mem_cons_self ..)
    have h3'' : ∀ t ∈ mfold (L.take j), ∀ u ∈ L.drop (j + 1), t.lo ≤ u.lo := fun t ht u hu => h3 t ht u (by rw [hd]; exact List.mem_cons_of_mem _ hu)
    rw [mfold_succ hsj]
    have hmem : ∀ x, hasB (L.take (j + 1)) x = (hasB (mfold (L.take j)) x || s.inB x) := fun x => by rw [hasB_take_succ hsj, h2 x]
    generalize hO : mfold (L.take j) = O at *
    rcases snoc_cases O with rfl | ⟨A, t, rfl⟩
    · rw [mstep_nil]
      refine ⟨⟨hv s hsm, fun t ht => by simp at ht, trivial⟩, fun x => by rw [hmem, hasB_one, hasB_nil, Bool.false_or], fun t ht u hu => ?_⟩
      obtain rfl := List.mem_singleton.1 ht
      exact hsrest u hu
    · have htl : t.lo ≤ s.lo := h3' t (List.mem_append_right _ (List.mem_singleton.2 rfl))
      by_cases hm : s.lo ≤ t.hi + 1
      · rw [mstep_in hm]
        obtain ⟨k1, k2⟩ := merge_in h1 (hv s hsm) htl hm
        refine ⟨k1, fun x => by rw [k2, hmem], fun u hu v hv' => ?_⟩
        rcases List.mem_append.1 hu with hu | hu
        · exact h3'' u (List.mem_append_left _ hu) v hv'
        · obtain rfl := List.mem_singleton.1 hu
          exact h3'' t (List.mem_append_right _ (List.mem_singleton.2 rfl)) v hv'
      · rw [mstep_new hm]
        refine ⟨merge_new h1 (hv s hsm) (by omega), fun x => by rw [hasB_append, hasB_one, hmem], fun u hu v hv' => ?_⟩
        rcases List.mem_append.1 hu with hu | hu
        · exact h3'' u hu v hv'
        · obtain rfl := List.mem_singleton.1 hu
          exact hsrest v hv'
/-- The form of a list: what the program's three steps make is the list in normal form with the same members. -/
def okS (s : SpanV) : Bool := decide (s.lo ≤ s.hi)
theorem hasB_filter (L : List SpanV) (x : Int) : hasB (L.filter okS) x = hasB L x := by
  rw [Bool.eq_iff_iff, hasB_iff, hasB_iff]
  constructor
  · rintro ⟨s, hs, h1⟩; exact ⟨s, (List.mem_filter.1 hs).1, h1⟩
  · rintro ⟨s, hs, h1, h2⟩; exact ⟨s, List.mem_filter.2 ⟨hs, by simp [okS]; omega⟩, h1, h2⟩
noncomputable def formOf (L : List SpanV) : List SpanV := theSet (hasB L)
theorem formOf_eq {L L' : List SpanV} (hp : L'.Perm (L.filter okS)) (hs : L'.Pairwise (fun x y => x.lo ≤ y.lo)) :
    formOf L = mfold L' ∧ NF (mfold L') ∧ ∀ x, hasB (mfold L') x = hasB L x := by
  have hv : ∀ s ∈ L', s.lo ≤ s.hi := fun s h => by
    have := (List.mem_filter.1 (hp.mem_iff.1 h)).2
    simpa [okS] using this
  obtain ⟨h1, h2, _⟩ := mfold_ok hs hv L'.length (Nat.le_refl _)
  rw [List.take_length] at h1 h2
  have h3 : ∀ x, hasB (mfold L') x = hasB L x := fun x => by rw [h2, hasB_perm hp, hasB_filter]
  exact ⟨theSet_eq h1 h3, h1, h3⟩
theorem formOf_ok (L : List SpanV) : NF (formOf L) ∧ ∀ x, hasB (formOf L) x = hasB L x := by
  have hp : ((L.filter okS).mergeSort (fun x y => decide (x.lo ≤ y.lo))).Perm (L.filter okS) := List.mergeSort_perm _ _
  have hs : ((L.filter okS).mergeSort (fun x y => decide (x.lo ≤ y.lo))).Pairwise (fun x y => x.lo ≤ y.lo) := by
    have := List.pairwise_mergeSort (le := fun (x y : SpanV) => decide (x.lo ≤ y.lo)) (fun a b c h1 h2 => by simp at *; omega) (fun a b => by simp; omega) (L.filter okS)
    exact this.imp (fun h => by simpa using h)
  obtain ⟨h1, h2, h3⟩ := formOf_eq hp hs
  rw [h1]
  exact ⟨h2, h3⟩
theorem theSet_form {P : Int → Bool} {L : List SpanV} (h : ∀ x, hasB L x = P x) : theSet P = formOf L := by
  obtain ⟨h1, h2⟩ := formOf_ok L
  exact theSet_eq h1 (fun x => by rw [h2, h])
theorem mfold_len (L : List SpanV) : ∀ j, (mfold (L.take j)).length ≤ j := by
  intro j
  induction j with
  | zero => simp [mfold]
  | succ j ih =>
    rcases Nat.lt_or_ge j L.length with h | h
    · rw [mfold_succ (List.getElem?_eq_getElem h)]
      generalize mfold (L.take j) = O at *
      rcases snoc_cases O with rfl | ⟨A, t, rfl⟩
      · simp [mstep_nil]
      · by_cases hm : (L[j]).lo ≤ t.hi + 1
        · rw [mstep_in hm]; simp at *; omega
        · rw [mstep_new hm]; simp at *; omega
    · have e : L.take (j + 1) = L.take j := by rw [List.take_of_length_le h, List.take_of_length_le (by omega)]
      rw [e]; omega
theorem formOf_len (L : List SpanV) : (formOf L).length ≤ L.length := by
  have hp : ((L.filter okS).mergeSort (fun x y => decide (x.lo ≤ y.lo))).Perm (L.filter okS) := List.mergeSort_perm _ _
  have hs : ((L.filter okS).mergeSort (fun x y => decide (x.lo ≤ y.lo))).Pairwise (fun x y => x.lo ≤ y.lo) := by
    have := List.pairwise_mergeSort (le := fun (x y : SpanV) => decide (x.lo ≤ y.lo)) (fun a b c h1 h2 => by simp at *; omega) (fun a b => by simp; omega) (L.filter okS)
    exact this.imp (fun h => by simpa using h)
  rw [(formOf_eq hp hs).1]
  generalize hM : (L.filter okS).mergeSort (fun x y => decide (x.lo ≤ y.lo)) = M at *
  have := mfold_len M M.length
  rw [List.take_length] at this
  have := hp.length_eq
  have := List.length_filter_le okS L
  omega

/-- What two spans have in common. -/
def meet1 (s t : SpanV) : List SpanV := if max s.lo t.lo ≤ min s.hi t.hi then [⟨max s.lo t.lo, min s.hi t.hi, by have := s.hlo; have := t.hlo; omega, by have := s.hhi; have := t.hhi; omega⟩] else []
theorem hasB_meet1 (s t : SpanV) (x : Int) : hasB (meet1 s t) x = (s.inB x && t.inB x) := by
  unfold meet1
  rw [Bool.eq_iff_iff, Bool.and_eq_true, inB_iff, inB_iff]
  split
  · rw [hasB_one, inB_iff]; show (max s.lo t.lo ≤ x ∧ x ≤ min s.hi t.hi) ↔ _; omega
  · rw [hasB_nil]; simp; omega
def meetRow (s : SpanV) (B : List SpanV) : List SpanV := B.flatMap (meet1 s)
def meetAll (A B : List SpanV) : List SpanV := A.flatMap (fun s => meetRow s B)
theorem hasB_flatMap {α : Type} (f : α → List SpanV) (A : List α) (x : Int) : hasB (A.flatMap f) x = A.any fun a => hasB (f a) x := by
  induction A with
  | nil => rfl
  | cons a A ih => rw [List.flatMap_cons, hasB_append, ih, List.any_cons]
theorem hasB_meetAll (A B : List SpanV) (x : Int) : hasB (meetAll A B) x = (hasB A x && hasB B x) := by
  unfold meetAll meetRow
  rw [hasB_flatMap]
  simp only [hasB_flatMap, hasB_meet1]
  rw [Bool.eq_iff_iff]
  simp [hasB]
  constructor
  · rintro ⟨s, hs, t, ht, h1, h2⟩; exact ⟨⟨s, hs, h1⟩, t, ht, h2⟩
  · rintro ⟨⟨s, hs, h1⟩, t, ht, h2⟩; exact ⟨s, hs, t, ht, h1, h2⟩
theorem meetRow_succ {s t : SpanV} {B : List SpanV} {k : Nat} (h : B[k]? = some t) : meetRow s (B.take (k + 1)) = meetRow s (B.take k) ++ meet1 s t := by
  unfold meetRow
  rw [List.take_add_one, h, List.flatMap_append]
  simp
theorem meetAll_succ {s : SpanV} {A B : List SpanV} {k : Nat} (h : A[k]? = some s) : meetAll (A.take (k + 1)) B = meetAll (A.take k) B ++ meetRow s B := by
  unfold meetAll
  rw [List.take_add_one, h, List.flatMap_append]
  simp
theorem meet1_len (s t : SpanV) : (meet1 s t).length ≤ 1 := by unfold meet1; split <;> simp
theorem meetRow_len (s : SpanV) (B : List SpanV) : (meetRow s B).length ≤ B.length := by
  induction B with
  | nil => simp [meetRow]
  | cons t B ih =>
    have := meet1_len s t
    simp only [meetRow, List.flatMap_cons, List.length_append, List.length_cons] at *
    omega
theorem meetAll_len (A B : List SpanV) : (meetAll A B).length ≤ A.length * B.length := by
  induction A with
  | nil => simp [meetAll]
  | cons s A ih =>
    have := meetRow_len s B
    simp only [meetAll, List.flatMap_cons, List.length_append, List.length_cons, Nat.succ_mul] at *
    omega

/-- What is not in a list, up to most: step by step over its form. -/
def gapOf (at' most : Int) (s : SpanV) : List SpanV :=
  if h : 0 ≤ at' ∧ at' < s.lo ∧ at' ≤ most ∧ most < 4294967296 then [⟨at', min (s.lo - 1) most, by omega, by omega⟩] else []
def natAt (F : List SpanV) : Int := match F.getLast? with | none => 0 | some s => s.hi + 1
theorem natAt_succ {F : List SpanV} {k : Nat} {s : SpanV} (h : F[k]? = some s) : natAt (F.take (k + 1)) = s.hi + 1 := by
  rw [List.take_add_one, h]
  simp [natAt]
theorem natAt_range {F : List SpanV} : 0 ≤ natAt F ∧ natAt F ≤ 4294967296 := by
  rcases snoc_cases F with rfl | ⟨A, t, rfl⟩
  · simp [natAt]
  · simp [natAt]; have := t.hhi; omega
theorem hasB_natAt {F : List SpanV} (h : NF F) {x : Int} (hx : hasB F x = true) : x < natAt F := by
  rcases snoc_cases F with rfl | ⟨A, t, rfl⟩
  · simp [hasB] at hx
  · obtain ⟨h1, h2, h3⟩ := NF.snoc.1 h
    obtain ⟨s, hs, hx1, hx2⟩ := hasB_iff.1 hx
    have e : natAt (A ++ [t]) = t.hi + 1 := by simp [natAt]
    rw [e]
    rcases List.mem_append.1 hs with hs | hs
    · have := h3 s hs; omega
    · obtain rfl := List.mem_singleton.1 hs; omega
theorem NF.take {F : List SpanV} (h : NF F) : ∀ k, NF (F.take k) := by
  induction F with
  | nil => intro k; simp [NF]
  | cons s r ih =>
    intro k
    cases k with
    | zero => trivial
    | succ k => exact ⟨h.1, fun t ht => h.2.1 t (List.mem_of_mem_take ht), ih h.2.2 k⟩
theorem NF.at_le {F : List SpanV} (h : NF F) {k : Nat} {s : SpanV} (hk : F[k]? = some s) : natAt (F.take k) ≤ s.lo := by
  have h1 := h.take (k + 1)
  rw [List.take_add_one, hk] at h1
  obtain ⟨_, h3, h4⟩ := NF.snoc.1 (show NF (F.take k ++ [s]) from h1)
  rcases snoc_cases (F.take k) with e | ⟨A, t, e⟩
  · rw [e]; exact s.hlo.1
  · rw [e] at h4 ⊢
    have := h4 t (List.mem_append_right _ (List.mem_singleton.2 rfl))
    simp [natAt]; omega
def notTo (most : Int) (F : List SpanV) : Nat → List SpanV
  | 0 => []
  | k + 1 => notTo most F k ++ (match F[k]? with | some s => gapOf (natAt (F.take k)) most s | none => [])
theorem notTo_succ {most : Int} {F : List SpanV} {k : Nat} {s : SpanV} (h : F[k]? = some s) : notTo most F (k + 1) = notTo most F k ++ gapOf (natAt (F.take k)) most s := by
  rw [notTo, h]
def lastOf (at' most : Int) : List SpanV := if h : 0 ≤ at' ∧ at' ≤ most ∧ most < 4294967296 then [⟨at', most, by omega, by omega⟩] else []
def notAll (most : Int) (F : List SpanV) : List SpanV := notTo most F F.length ++ lastOf (natAt F) most
theorem gapOf_len (a m : Int) (s : SpanV) : (gapOf a m s).length ≤ 1 := by unfold gapOf; split <;> simp
theorem notTo_len (most : Int) (F : List SpanV) (k : Nat) : (notTo most F k).length ≤ k := by
  induction k with
  | zero => simp [notTo]
  | succ k ih =>
    rw [notTo, List.length_append]
    split
    · have := gapOf_len (natAt (F.take k)) most ‹_›; omega
    · simp; omega
/-- What is in none of a list, up to most. -/
def notP (most : Int) (L : List SpanV) (x : Int) : Bool := decide (0 ≤ x) && decide (x ≤ most) && !hasB L x
theorem notTo_ok {most : Int} {F : List SpanV} (hF : NF F) (hm : 0 ≤ most ∧ most < 4294967296) : ∀ k, k ≤ F.length →
    NF (notTo most F k) ∧ (∀ a ∈ notTo most F k, a.hi + 1 < natAt (F.take k)) ∧ ∀ x, hasB (notTo most F k) x = (notP most (F.take k) x && decide (x < natAt (F.take k))) := by
  intro k
  induction k with
  | zero =>
    intro _
    refine ⟨trivial, fun a ha => by simp [notTo] at ha, fun x => ?_⟩
    by_cases h0 : 0 ≤ x
    · have h1 : ¬ x < 0 := by omega
      simp [notTo, hasB_nil, natAt, h1]
    · simp [notTo, hasB_nil, notP, natAt, h0]
  | succ k ih =>
    intro hk
    obtain ⟨h1, h2, h3⟩ := ih (by omega)
    obtain ⟨s, hs⟩ : ∃ s, F[k]? = some s := ⟨_, List.getElem?_eq_getElem (by omega)⟩
    have hsv : s.lo ≤ s.hi := hF.ok s (List.mem_of_getElem? hs)
    have hat := hF.at_le hs
    have hat0 := (natAt_range (F := F.take k)).1
    rw [notTo_succ hs, natAt_succ hs]
    have hin : ∀ x, hasB (F.take k) x = true → x < natAt (F.take k) := fun x hx => hasB_natAt (hF.take k) hx
    generalize natAt (F.take k) = A at *
    have hmem : ∀ x, hasB (notTo most F k ++ gapOf A most s) x = (notP most (F.take (k + 1)) x && decide (x < s.hi + 1)) := by
      intro x
      have hin := hin x
      rw [hasB_append, h3, notP, notP, hasB_take_succ hs]
      have hg : hasB (gapOf A most s) x = (decide (A ≤ x) && decide (x < s.lo) && decide (x ≤ most)) := by
        unfold gapOf
        split
        · rw [hasB_one, Bool.eq_iff_iff, inB_iff]
          simp
          show A ≤ x ∧ x ≤ min (s.lo - 1) most ↔ _
          omega
        · rw [hasB_nil]
          simp
          omega
      rw [hg]
      have hi : s.inB x = (decide (s.lo ≤ x) && decide (x ≤ s.hi)) := rfl
      rw [hi]
      cases hx : hasB (F.take k) x with
      | true =>
        have := hin hx
        simp
        omega
      | false =>
        rw [Bool.eq_iff_iff]
        simp
        omega
    refine ⟨?_, ?_, hmem⟩
    · by_cases hg : 0 ≤ A ∧ A < s.lo ∧ A ≤ most ∧ most < 4294967296
      · rw [gapOf, dif_pos hg]
        refine NF.snoc.2 ⟨h1, ?_, fun a ha => h2 a ha⟩
        show A ≤ min (s.lo - 1) most
        omega
      · rw [gapOf, dif_neg hg, List.append_nil]
        exact h1
    · intro a ha
      rcases List.mem_append.1 ha with ha | ha
      · have := h2 a ha; omega
      · unfold gapOf at ha
        split at ha
        · obtain rfl := List.mem_singleton.1 ha
          show min (s.lo - 1) most + 1 < _
          omega
        · simp at ha
theorem notAll_ok {most : Int} {F : List SpanV} (hF : NF F) (hm : 0 ≤ most ∧ most < 4294967296) : NF (notAll most F) ∧ ∀ x, hasB (notAll most F) x = notP most F x := by
  obtain ⟨h1, h2, h3⟩ := notTo_ok hF hm F.length (Nat.le_refl _)
  rw [List.take_length] at h2 h3
  have hat0 := (natAt_range (F := F)).1
  have hin : ∀ x, hasB F x = true → x < natAt F := fun x hx => hasB_natAt hF hx
  unfold notAll
  generalize natAt F = A at *
  refine ⟨?_, fun x => ?_⟩
  · unfold lastOf
    split
    · rename_i hg
      exact NF.snoc.2 ⟨h1, hg.2.1, fun a ha => h2 a ha⟩
    · rw [List.append_nil]; exact h1
  · rw [hasB_append, h3]
    have hg : hasB (lastOf A most) x = (decide (A ≤ x) && decide (x ≤ most)) := by
      unfold lastOf
      split
      · rw [hasB_one, Bool.eq_iff_iff, inB_iff]; simp
      · rw [hasB_nil]; simp; intro _; omega
    rw [hg]
    have hin := hin x
    unfold notP
    cases hx : hasB F x with
    | true => have := hin hx; simp; omega
    | false => rw [Bool.eq_iff_iff]; simp; omega
theorem notP_form (most : Int) (L : List SpanV) : notP most (formOf L) = notP most L := by
  funext x; unfold notP; rw [(formOf_ok L).2]
theorem theSet_not {most : Int} (hm : 0 ≤ most ∧ most < 4294967296) (L : List SpanV) : theSet (notP most L) = notAll most (formOf L) := by
  obtain ⟨h1, h2⟩ := notAll_ok (formOf_ok L).1 hm
  exact theSet_eq h1 (fun x => by rw [h2, notP_form])

end Go.Proofs.YtakkgamhceignaaGreatDoor

/-
  What is read of the text of a set, as one function: no program in sight.
-/
namespace Go.Proofs.YtakkgamhceignaaGreatDoor
open Go Go.RowKit Go.Sort

theorem joinC_join : ∀ (L : List (List UInt8)), joinC L = Lib.join L [44]
  | [] => rfl
  | [x] => (Lib.join_one x [44]).symm
  | x :: y :: r => by
    rw [joinC, joinC_join (y :: r), Lib.join_cons, Lib.join_cons]
    simp [Lib.joinTail]
theorem joinC_snoc : ∀ (L : List (List UInt8)) (x : List UInt8), joinC (L ++ [x]) = if L = [] then x else joinC L ++ 44 :: x
  | [], x => rfl
  | [y], x => by simp [joinC]
  | y :: z :: r, x => by
    have h := joinC_snoc (z :: r) x
    rw [if_neg (by simp)] at h ⊢
    rw [List.cons_append, List.cons_append, joinC, ← List.cons_append, h]
    simp [joinC]
/-- The span of two numbers. -/
def spOf (x : Nat × Nat) : SpanV := if h : x.1 ≤ x.2 ∧ x.2 < 4294967296 then spanOf x h else default
theorem spOf_ok {x : Nat × Nat} (h : x.1 ≤ x.2 ∧ x.2 < 4294967296) : (spOf x).two = x ∧ (spOf x).lo = x.1 ∧ (spOf x).hi = x.2 := by
  unfold spOf
  rw [dif_pos h]
  exact ⟨spanOf_two x h, rfl, rfl⟩
theorem spOf_two {s : SpanV} (h : s.lo ≤ s.hi) : spOf s.two = s := by
  have h1 := s.hlo
  have h2 := s.hhi
  have h3 : s.two.1 ≤ s.two.2 ∧ s.two.2 < 4294967296 := by unfold SpanV.two; dsimp only; omega
  exact two_inj (spOf_ok h3).1
theorem spOf_map {L : List SpanV} (h : ∀ s ∈ L, s.lo ≤ s.hi) : (L.map SpanV.two).map spOf = L := by
  induction L with
  | nil => rfl
  | cons s r ih =>
    rw [List.map_cons, List.map_cons, spOf_two (h s (by simp)), ih (fun x hx => h x (List.mem_cons_of_mem _ hx))]
/-- What is read of a text. -/
noncomputable def setP (s : List UInt8) : Option (List SpanV) :=
  if s = [45] then some [] else match readL (pieces 44 s) with
    | some l => if setT (formOf (l.map spOf)) = s then some (l.map spOf) else none
    | none => none
noncomputable def setL (s : List UInt8) : List SpanV := (setP s).getD []
noncomputable def setE (s : List UInt8) : Int := if (setP s).isSome then 0 else 4
theorem set_none {s : List UInt8} (h : setP s = none) : setL s = [] ∧ setE s = 4 := by unfold setL setE; rw [h]; exact ⟨rfl, rfl⟩
theorem set_some {s : List UInt8} {L : List SpanV} (h : setP s = some L) : setL s = L ∧ setE s = 0 := by unfold setL setE; rw [h]; exact ⟨rfl, rfl⟩
theorem setP_dash : setP [45] = some [] := by unfold setP; rw [if_pos rfl]
theorem setP_bad {s : List UInt8} (hs : s ≠ [45]) (h : readL (pieces 44 s) = none) : setP s = none := by unfold setP; rw [if_neg hs, h]
theorem setP_ne {s : List UInt8} {L : List SpanV} (hs : s ≠ [45]) (h : readL (pieces 44 s) = some (L.map SpanV.two)) (hL : ∀ x ∈ L, x.lo ≤ x.hi) (ht : setT (formOf L) ≠ s) : setP s = none := by
  unfold setP
  rw [if_neg hs, h]
  dsimp only
  rw [spOf_map hL, if_neg ht]
theorem setP_yes {s : List UInt8} {L : List SpanV} (hs : s ≠ [45]) (h : readL (pieces 44 s) = some (L.map SpanV.two)) (hL : ∀ x ∈ L, x.lo ≤ x.hi) (ht : setT (formOf L) = s) : setP s = some L := by
  unfold setP
  rw [if_neg hs, h]
  dsimp only
  rw [spOf_map hL, if_pos ht]
theorem formOf_NF (L : List SpanV) : NF (formOf L) := (formOf_ok L).1
theorem formOf_nil : formOf [] = [] := theSet_eq trivial (fun _ => rfl)
/-- A list that was read is in its form, and the text is its. -/
theorem setP_form {s : List UInt8} {L : List SpanV} (h : setP s = some L) : formOf L = L ∧ setT L = s := by
  unfold setP at h
  split at h
  · rename_i hs
    injection h with h
    subst h
    exact ⟨formOf_nil, by rw [hs]; rfl⟩
  · rename_i hs
    split at h
    · rename_i l hl
      split at h
      · rename_i ht
        injection h with h
        obtain ⟨M, hM, hk⟩ := readL_spans hl
        have e : l.map spOf = M := by rw [hM, spOf_map hk]
        rw [e] at ht h
        subst h
        rw [hM] at hl
        have := read_form hs hl (fun x hx => (formOf_NF M).ok x hx) ht
        exact ⟨this.symm, by rw [← this] at ht; exact ht⟩
      · cases h
    · cases h
theorem setT_ne {F : List SpanV} (h : F ≠ []) (hF : ∀ x ∈ F, x.lo ≤ x.hi) : setT F ≠ [45] := by
  intro e
  have h1 := setT_pieces h
  rw [e] at h1
  obtain ⟨s, r, rfl⟩ := List.exists_cons_of_ne_nil h
  rw [pieces_none (by decide), List.map_cons] at h1
  injection h1 with h1 _
  have h2 := wordO_t (hF s (by simp))
  rw [← h1] at h2
  have h3 : wordO [45] = none := by decide
  rw [h3] at h2
  cases h2
/-- The text of a set in its form is read to it. -/
theorem setP_text {F : List SpanV} (hn : NF F) (hf : formOf F = F) : setP (setT F) = some F := by
  by_cases h : F = []
  · subst h; exact setP_dash
  · exact setP_yes (setT_ne h hn.ok) (read_back h hn.ok) hn.ok (by rw [hf])
/-- What the document's words refuse, the program refuses. -/
theorem setP_badD {s : List UInt8} (hs : s ≠ [45]) (h : readD (pieces 44 s) = none) : setP s = none := by
  cases e : setP s with
  | none => rfl
  | some L =>
    obtain ⟨h1, h2⟩ := setP_form e
    have hn : NF L := by rw [← h1]; exact formOf_NF L
    have hne : L ≠ [] := fun e => hs (by rw [← h2, e]; rfl)
    rw [← h2, setT_pieces hne, readD_t L hn.ok] at h
    cases h
theorem setL_NF (s : List UInt8) : formOf (setL s) = setL s := by
  cases e : setP s with
  | none => rw [(set_none e).1]; exact formOf_nil
  | some L => rw [(set_some e).1]; exact (setP_form e).1
/-- How far the words have been read. -/
def RInv (rd : List (List UInt8) → Option (List (Nat × Nat))) (ws rest : List (List UInt8)) (L : List SpanV) : Prop := rd ws = (rd rest).map fun r => L.map SpanV.two ++ r
theorem rinv_start (rd) (ws : List (List UInt8)) : RInv rd ws ws [] := by
  unfold RInv
  cases rd ws <;> simp
theorem rinvL_bad {ws r : List (List UInt8)} {w : List UInt8} {L : List SpanV} (h : RInv readL ws (w :: r) L) (hw : wordO w = none) : readL ws = none := by
  unfold RInv at h
  rw [h, readL, hw]
  rfl
theorem rinvL_next {ws r : List (List UInt8)} {w : List UInt8} {L : List SpanV} {x : Nat × Nat} (h : RInv readL ws (w :: r) L) (hw : wordO w = some x) : RInv readL ws r (L ++ [spOf x]) := by
  unfold RInv at *
  rw [h, readL, hw]
  have hx := (spOf_ok (wordO_ok hw)).1
  cases readL r with
  | none => rfl
  | some l => simp [hx]
theorem rinvD_bad {ws r : List (List UInt8)} {w : List UInt8} {L : List SpanV} (h : RInv readD ws (w :: r) L) (hw : wordD w = none) : readD ws = none := by
  unfold RInv at h
  rw [h, readD, hw]
  rfl
theorem rinvD_next {ws r : List (List UInt8)} {w : List UInt8} {L : List SpanV} {x : Nat × Nat} (h : RInv readD ws (w :: r) L) (hw : wordD w = some x) : RInv readD ws r (L ++ [spOf x]) := by
  unfold RInv at *
  rw [h, readD, hw]
  have hx := (spOf_ok (wordO_ok (wordD_O hw))).1
  cases readD r with
  | none => rfl
  | some l => simp [hx]
theorem rinvL_end {ws : List (List UInt8)} {L : List SpanV} (h : RInv readL ws [] L) : readL ws = some (L.map SpanV.two) := by
  unfold RInv at h
  rw [h]
  simp [readL]
theorem rinvD_end {ws : List (List UInt8)} {L : List SpanV} (h : RInv readD ws [] L) : readD ws = some (L.map SpanV.two) := by
  unfold RInv at h
  rw [h]
  simp [readD]
theorem read_ok {ws : List (List UInt8)} {L : List SpanV} (h : readL ws = some (L.map SpanV.two)) : ∀ s ∈ L, s.lo ≤ s.hi := by
  obtain ⟨M, hM, hk⟩ := readL_spans h
  rw [map_two_inj hM]
  exact hk
/-- A span's text as the program puts it together. -/
def tB (s : SpanV) : ByteArray := ⟨s.t.toArray⟩
theorem dec32 {n : Nat} (h : n < 4294967296) : (Lib.decDigits n).length ≤ 10 := by
  have : ∀ k n : Nat, n < 10 ^ (k + 1) → (Lib.decDigits n).length ≤ k + 1 := by
    intro k
    induction k with
    | zero => intro n h; rw [decDigits_small (by simpa using h)]; simp
    | succ k ih =>
      intro n h
      by_cases h9 : n < 10
      · rw [decDigits_small h9]; simp
      · rw [decDigits_big h9, List.length_append]
        have := ih (n / 10) (by rw [Nat.pow_succ] at h; omega)
        simp; omega
  exact this 9 n (Nat.lt_of_lt_of_le h (by decide))
theorem t_len (s : SpanV) : s.t.length ≤ 21 := by
  have := s.hlo
  have := s.hhi
  have h1 := dec32 (n := s.lo.toNat) (by omega)
  have h2 := dec32 (n := s.hi.toNat) (by omega)
  unfold SpanV.t
  split
  · omega
  · simp; omega
theorem t_ne (s : SpanV) : s.t ≠ [] := by
  unfold SpanV.t
  split
  · exact decDigits_ne_nil _
  · simp
theorem joinC_len : ∀ (F : List SpanV), (joinC (F.map SpanV.t)).length ≤ 22 * F.length
  | [] => by simp [joinC]
  | [s] => by have := t_len s; simp [joinC]; omega
  | s :: u :: r => by
    have h1 := t_len s
    have h2 := joinC_len (u :: r)
    simp only [List.map_cons, joinC, List.length_append, List.length_cons] at *
    omega
theorem setT_cons {F : List SpanV} (h : F ≠ []) : setT F = joinC (F.map SpanV.t) := by unfold setT; rw [if_neg h]
theorem joinC_ne {F : List SpanV} (h : F ≠ []) : joinC (F.map SpanV.t) ≠ [] := by
  match F, h with
  | [s], _ => exact t_ne s
  | s :: u :: r, _ => simp [joinC]
theorem setT_len (F : List SpanV) : (setT F).length ≤ 22 * F.length + 1 := by
  by_cases h : F = []
  · subst h; decide
  · rw [setT_cons h]; have := joinC_len F; omega
end Go.Proofs.YtakkgamhceignaaGreatDoor

/-
  A region that draws its order, with a head whose operations are quiet in a class of worlds and a tail in one forced order: no program in sight.
-/
namespace Go.Proofs.YtakkgamhceignaaGreatDoor
open Go Go.Sort

section
variable {P : Program} {ops : Array Oper} {md : Region.Mode} {C : World → Prop}
/-- The head, in whatever order, up to L. -/
def headQ (P : Program) (md : Region.Mode) (ops : Array Oper) (C : World → Prop) (n : Nat) (L : Array Bool → Act → Prop) : Nat → Array Bool → Act → Prop
  | 0, listed, a => L listed a
  | f + 1, listed, a => Region.ready md ops listed ≠ [] ∧ ∀ i, i ∈ Region.ready md ops listed → i < n ∧ qOp P ops C i (headQ P md ops C n L f (listed.setIfInBounds i true)) a
theorem any_of_headQ {n g : Nat} {L : Array Bool → Act → Prop} {K : Exit → Act → World → Prop} (hL : ∀ listed a w, C w → L listed a → wpAny P md ops K g listed a w) :
    ∀ (f : Nat) (listed : Array Bool) (a : Act) (w : World), C w → headQ P md ops C n L f listed a → wpAny P md ops K (f + g) listed a w
  | 0, listed, a, w, hw, h => by rw [Nat.zero_add]; exact hL _ _ _ hw h
  | f + 1, listed, a, w, hw, h => by
    have e : f + 1 + g = (f + g) + 1 := by omega
    rw [e]
    refine ⟨fun hn => absurd hn h.1, fun i hi => wpOp_of_qOp hw (fun a' w' hw' h' => any_of_headQ hL f _ a' w' hw' h') (h.2 i hi).2⟩
/-- An operation of the head that is ready may be taken first. -/
theorem headQ_first {n i : Nat} {oi : Oper} {v : Value} {L : Array Bool → Act → Prop} (hi : ops[i]? = some oi) (hsel : ∀ (j : Nat) (o : Oper) cs b, ops[j]? = some o → o.op ≠ .select cs b)
    (hs : Region.sinkB md ops n = true) (hc : Region.chainB md ops n = true) (hn : n < ops.size) (hin : i < n) (hend : ∀ listed a, L listed a → ∀ j ∈ Region.ready md ops listed, n ≤ j)
    (f : Nat) : ∀ (listed : Array Bool) (a : Act), HeadInv md ops n listed →
      (∀ j oj, ops[j]? = some oj → j ≠ i → listed.getD j true = false → (∀ e ∈ oj.after, Region.binds md e = true → e.on ≠ i) → oi.apart ops oj = true) →
      i ∈ Region.ready md ops listed → YieldsIn P ops C oi v a → headQ P md ops C n L f (listed.setIfInBounds i true) (a.put oi.dst v) → headQ P md ops C n L (f + 1) listed a := by
  induction f with
  | zero =>
    intro listed a inv _ hr hy H
    have hlow : ∀ j ∈ Region.ready md ops listed, j < n := fun j hj => (Nat.lt_or_ge j n).elim id fun h => absurd hj (tail_waits hs hc hn inv _ i rfl hin (mem_ready.1 hr).1 j h)
    refine ⟨fun h => (by rw [h] at hr; cases hr), fun j hj => ⟨hlow j hj, ?_⟩⟩
    by_cases hji : j = i
    · subst hji
      exact hy.qOp hi H
    · have h1 := hend _ _ H j (ready_mono hj hji)
      have h2 := hlow j hj
      omega
  | succ f ih =>
    intro listed a inv hfree hr hy H
    have hun := (mem_ready.1 hr).1
    have hlow : ∀ j ∈ Region.ready md ops listed, j < n := fun j hj => (Nat.lt_or_ge j n).elim id fun h => absurd hj (tail_waits hs hc hn inv _ i rfl hin hun j h)
    refine ⟨fun h => (by rw [h] at hr; cases hr), fun j hj => ⟨hlow j hj, ?_⟩⟩
    by_cases hji : j = i
    · subst hji
      exact hy.qOp hi H
    · obtain ⟨hjun, oj, hoj, hall⟩ := mem_ready.1 hj
      have hnot : ∀ e ∈ oj.after, Region.binds md e = true → e.on ≠ i := by
        intro e he hb heq
        have h1 := hall e he hb
        rw [heq, getD_both hun] at h1
        cases h1
      have hput := qOp_put hoj (hfree j oj hoj hji hjun hnot) (fun cs b => hsel i oi cs b hi) (fun cs b => hsel j oj cs b hoj) hy (H.2 j (ready_mono hj hji)).2
      refine qOp_mono (fun a' h3 => ih (listed.setIfInBounds j true) a' (inv.set hj (hlow j hj)) ?_ (ready_mono hr (Ne.symm hji)) h3.1 ?_) hput
      · intro k ok hk hki hku hno
        refine hfree k ok hk hki ?_ hno
        by_cases hjk : j = k
        · subst hjk; exact hjun
        · rw [getD_set_ne true hjk] at hku; exact hku
      · rw [Array.setIfInBounds_comm _ _ hji]
        exact h3.2
theorem headQ_lex {n g : Nat} {Lq : Act → Prop} (hsel : Region.noSelect ops = true) (hs : Region.sinkB md ops n = true) (hc : Region.chainB md ops n = true) (hn : n < ops.size) :
    ∀ (l : List Oper) (k : Nat) (listed : Array Bool) (a : Act), (∀ j, j < l.length → l[j]? = ops[k + j]?) → k + l.length = n → HeadInv md ops n listed →
    Region.lexHead md ops g l.length k listed = true → wpQuiet P ops C Lq l a →
    headQ P md ops C n (fun listed' a' => Region.seqB md ops g n listed' = true ∧ Lq a') l.length listed a := by
  intro l
  induction l with
  | nil =>
    intro k listed a _ hk _ hB h
    obtain rfl : k = n := by simpa using hk
    exact ⟨by simpa [Region.lexHead] using hB, h⟩
  | cons o l ih =>
    intro k listed a hl hk inv hB h
    have h0 : ops[k]? = some o := by simpa using (hl 0 (by simp)).symm
    simp only [List.length_cons, Region.lexHead, Bool.and_eq_true] at hB
    obtain ⟨⟨hr, hf⟩, hB'⟩ := hB
    have hkn : k < n := by simp only [List.length_cons] at hk; omega
    have hr' : k ∈ Region.ready md ops listed := by simpa using hr
    obtain ⟨v, hy, hK⟩ := yieldsIn_of_qOp (C := C) (P := P) (K := wpQuiet P ops C Lq l) h0 (by unfold qOp; simp only [h0]; exact h)
    refine headQ_first h0 (Region.noSelect_spec hsel) hs hc hn hkn (fun listed' a' hL => seqB_ready hL.1) l.length listed a inv (Region.free_spec h0 hf) hr' hy (ih (k + 1) _ _ (fun j hj => ?_) (by simp only [List.length_cons] at hk; omega) (inv.set hr' hkn) hB' hK)
    have h1 := hl (j + 1) (by simp; omega)
    simpa [Nat.add_assoc, Nat.add_comm 1 j] using h1
/-- A head that is quiet in the class, then the tail in its order, in any world of the class. -/
theorem wp_region_quiet_tail {id : Nat} {Q : Exit → Act → World → Prop} {a : Act} {w : World} {l : List Oper} (n : Nat) (hm : P.follows .mixedOrders = true) (hB : Region.lexTailB .any l.toArray n = true) (hC : C { w with drawn := w.drawn + 1 })
    (h : wpQuiet P l.toArray C (fun a' => ∀ w', C w' → wpList P l.toArray Q (l.drop n) a' w') (l.take n) a) : (Code.region id l.toArray true).wp P Q a w := by
  simp only [Region.lexTailB, Bool.and_eq_true, decide_eq_true_eq] at hB
  obtain ⟨⟨⟨⟨hsel, hn⟩, hs⟩, hc⟩, hlex⟩ := hB
  have hn' : n < l.length := by simpa using hn
  have htl : (l.take n).length = n := by simp; omega
  have hdl : (l.drop n).length = l.toArray.size - n := by simp
  have inv0 : HeadInv .any l.toArray n (Array.replicate l.toArray.size false) :=
    ⟨by simp, fun j oj _ hl => (by rw [getD_replicate_false] at hl; cases hl), fun t _ ht => getD_in (by simpa using ht) (getD_replicate_false _ _)⟩
  have H := headQ_lex (C := C) (P := P) (md := .any) (g := l.toArray.size - n) hsel hs hc hn (l.take n) 0 (Array.replicate l.toArray.size false) a (fun j hj => by
    have hj' : j < n := by rw [htl] at hj; exact hj
    simp [hj']) (by simpa using htl) inv0 (by rw [htl]; exact hlex) h
  refine wp_region_any hm ?_
  have H2 := any_of_headQ (K := Q) (g := l.toArray.size - n) (fun listed a' w' hw' hL => by
    have h2 := wpAny_of_seq (P := P) (Q' := Q) (l.drop n) n listed a' w' (fun j => by simp) (by rw [hdl]; exact hL.1) (hL.2 w' hw')
    rw [hdl] at h2
    exact h2) (l.take n).length (Array.replicate l.toArray.size false) a { w with drawn := w.drawn + 1 } hC H
  have e : (l.take n).length + (l.toArray.size - n) = l.toArray.size := by rw [htl]; simp; omega
  rw [e] at H2
  exact H2
/-- The same at the class of the worlds that are drawn and grown. -/
theorem wp_region_tail_below {id : Nat} {Q : Exit → Act → World → Prop} {a : Act} {w : World} {l : List Oper} (n : Nat) (hm : P.follows .mixedOrders = true) (hB : Region.lexTailB .any l.toArray n = true)
    (h : wpQuiet P l.toArray (fun w' => ∃ p : Regrown, w' = grow (redrawn w p.d) p.os) (fun a' => ∀ w', (∃ p : Regrown, w' = grow (redrawn w p.d) p.os) → wpList P l.toArray Q (l.drop n) a' w') (l.take n) a) : (Code.region id l.toArray true).wp P Q a w :=
  wp_region_quiet_tail (C := fun w' => ∃ p : Regrown, w' = grow (redrawn w p.d) p.os) n hm hB ⟨⟨w.drawn + 1, #[]⟩, by rw [grow_empty]; rfl⟩ h
end
end Go.Proofs.YtakkgamhceignaaGreatDoor

/-
  Walks over the filter's layer: a span's text; and what the walk of a rule's text needs.
-/
namespace Go.Proofs.YtakkgamhceignaaGreatDoor
open Go Go.RowKit Go.Sort

@[reducible] def StrR (f : FuncId) (args : Array Value) (t : ByteArray) (W : World) : Prop := ∀ d os, Calls Tryz.prog f args (grow (redrawn W d) os) fun e w' => e = .returned (.string t) ∧ Below (grow (redrawn W d) os).heap.size (grow (redrawn W d) os) w'
theorem dec_size5 {n : Int} (h : n < 4294967296) : (⟨(Lib.decDigits n.toNat).toArray⟩ : ByteArray).size ≤ 10 := by
  show (Lib.decDigits n.toNat).toArray.size ≤ 10
  have h1 := dec32 (n := n.toNat) (by omega)
  simpa using h1
theorem portT_size {lo hi : Int} (h1 : lo < 4294967296) (h2 : hi < 4294967296) : (⟨(portT lo hi).toArray⟩ : ByteArray).size ≤ 21 := by
  show (portT lo hi).toArray.size ≤ 21
  have k1 := dec32 (n := lo.toNat) (by omega)
  have k2 := dec32 (n := hi.toNat) (by omega)
  unfold portT
  simp
  omega
theorem fmtI_any (n : Int) (h0 : 0 ≤ n) (h1 : n < 4294967296) (w : World) (hE : Env w) :
    Calls Tryz.prog 59 #[.int .u64 n, .int .i64 10] w fun e w' => e = .returned (.string ⟨(Lib.decDigits n.toNat).toArray⟩) ∧ Below w.heap.size w w' := by
  obtain ⟨u, rfl⟩ := Int.eq_ofNat_of_zero_le h0
  exact fmtUint_any u (by omega) w hE
set_option maxRecDepth 100000 in
set_option maxHeartbeats 2000000 in
theorem portT_any (lo hi : Int) (h0 : 0 ≤ lo ∧ lo < 4294967296) (h1 : 0 ≤ hi ∧ hi < 4294967296) (w : World) (hE : Env w) :
    Calls Tryz.prog 34 #[.agg #[.int .u32 lo, .int .u32 hi]] w fun e w' => e = .returned (.string ⟨(portT lo hi).toArray⟩) ∧ Below w.heap.size w w' := by
  have z1 := dec_size5 h0.2
  have z2 := dec_size5 h1.2
  obtain ⟨h00, h01⟩ := h0
  obtain ⟨h10, h11⟩ := h1
  go_enter Tryz.func34, Tryz.ntmps34
  go_upto_region 1 with fail
  have hk := heap_alloc_new w (.cells #[.int .u32 lo, .int .u32 hi] 27)
  have hbW := below1 w (.cells #[.int .u32 lo, .int .u32 hi] 27)
  have hEW := hE.below hbW
  generalize w.alloc (.cells #[.int .u32 lo, .int .u32 hi] 27) = W at *
  obtain ⟨c0, c1, _, _⟩ := two_cells hk
  have F0 := cell_regrown c0
  have F1 := cell_regrown c1
  have HX := Lib.hid (show StrR 59 #[.int .u64 lo, .int .i64 10] _ W from fun d os => fmtI_any lo h00 h01 _ (hEW.below (below_regrown W d os)))
  have HY := Lib.hid (show StrR 59 #[.int .u64 hi, .int .i64 10] _ W from fun d os => fmtI_any hi h10 h11 _ (hEW.below (below_regrown W d os)))
  have hp := Lib.hid (show (⟨(portT lo hi).toArray⟩ : ByteArray) = (⟨(Lib.decDigits lo.toNat).toArray⟩ ++ ⟨#[45]⟩) ++ ⟨(Lib.decDigits hi.toNat).toArray⟩ from byte_ext (by simp [portT, ByteArray.data_append]))
  generalize (⟨(Lib.decDigits lo.toNat).toArray⟩ : ByteArray) = q1 at *
  generalize (⟨(Lib.decDigits hi.toNat).toArray⟩ : ByteArray) = q2 at *
  refine wp_region_quiet_below (by kernel_rfl) (by kernel_rfl) ?_
  repeat (first | go_big_quiet_step ((first | (go_at_call 59; first | (with_reducible exact Calls.regrown_of (HX.out _ _)) | (with_reducible exact Calls.regrown_of (HY.out _ _))))) | quiet_step ((first | (go_at_call 59; first | (with_reducible exact Calls.regrown_of (HX.out _ _)) | (with_reducible exact Calls.regrown_of (HY.out _ _))))))
  refine wpQuiet_nil ?_
  intro _ hw'
  obtain ⟨⟨nq, osq⟩, hw''⟩ := hw'
  subst hw''
  go_wp2
  go_ret
  exact ⟨by rw [hp.out]; rfl, hbW.trans ((below_regrown W nq osq).mono hbW.size)⟩
theorem prefI_any (a n : Int) (ha : 0 ≤ a ∧ a < 4294967296) (h0 : -9223372036854775808 ≤ n) (h1 : n ≤ 9223372036854775807) (w : World) (hE : Env w) :
    Calls Tryz.prog 33 #[.agg #[.int .u32 a, .int .i64 n]] w fun e w' => e = .returned (.string ⟨(prefT a n).toArray⟩) ∧ Below w.heap.size w w' := by
  obtain ⟨a, rfl⟩ := Int.eq_ofNat_of_zero_le ha.1
  have h := prefixText_any a n (by omega) h0 h1 w hE
  have e : (⟨(prefT (a : Int) n).toArray⟩ : ByteArray) = textP a n := byte_ext (by simp [prefT])
  rw [e]
  exact h
theorem rule_blk {w : World} {g : Nat} {r : RuleV} {t : TypeId} (h : w.heap[g]? = some (.cells #[.bool r.permit, .int .i64 r.proto, .int .u32 r.sa, .int .i64 r.sn, .int .u32 r.da, .int .i64 r.dn, .int .u32 r.sl, .int .u32 r.sh, .int .u32 r.dl, .int .u32 r.dh] t (0, 0))) :
    w.cell? ⟨g, 0, none⟩ = some (.bool r.permit) ∧ w.cell? ⟨g, 1, none⟩ = some (.int .i64 r.proto) ∧ w.cell? ⟨g, 2, none⟩ = some (.int .u32 r.sa) ∧ w.cell? ⟨g, 3, none⟩ = some (.int .i64 r.sn) ∧ w.cell? ⟨g, 4, none⟩ = some (.int .u32 r.da) ∧ w.cell? ⟨g, 5, none⟩ = some (.int .i64 r.dn) ∧ w.cell? ⟨g, 6, none⟩ = some (.int .u32 r.sl) ∧ w.cell? ⟨g, 7, none⟩ = some (.int .u32 r.sh) ∧ w.cell? ⟨g, 8, none⟩ = some (.int .u32 r.dl) ∧ w.cell? ⟨g, 9, none⟩ = some (.int .u32 r.dh) :=
  ⟨cell_of_row w g 0 _ t (0, 0) h, cell_of_row w g 1 _ t (0, 0) h, cell_of_row w g 2 _ t (0, 0) h, cell_of_row w g 3 _ t (0, 0) h, cell_of_row w g 4 _ t (0, 0) h, cell_of_row w g 5 _ t (0, 0) h, cell_of_row w g 6 _ t (0, 0) h, cell_of_row w g 7 _ t (0, 0) h, cell_of_row w g 8 _ t (0, 0) h, cell_of_row w g 9 _ t (0, 0) h⟩
def ruleObj (r : RuleV) : Obj := .cells #[.bool r.permit, .int .i64 r.proto, .int .u32 r.sa, .int .i64 r.sn, .int .u32 r.da, .int .i64 r.dn, .int .u32 r.sl, .int .u32 r.sh, .int .u32 r.dl, .int .u32 r.dh] 29
/-- Words with a blank between two. -/
def joinB32 : List (List UInt8) → List UInt8
  | [] => []
  | [x] => x
  | x :: y :: r => x ++ 32 :: joinB32 (y :: r)
theorem joinC_join32 : ∀ (L : List (List UInt8)), joinB32 L = Lib.join L [32]
  | [] => rfl
  | [x] => (Lib.join_one x [32]).symm
  | x :: y :: r => by
    rw [joinB32, joinC_join32 (y :: r), Lib.join_cons, Lib.join_cons]
    simp [Lib.joinTail]
theorem prefT_len {a n : Int} (h0 : 0 ≤ n) (h1 : n ≤ 32) : (prefT a n).length ≤ 26 := by
  have e : (textA a.toNat).data.toList.length = (textA a.toNat).size := Array.length_toList
  have k1 := textA_size a.toNat
  have k2 := dec32 (n := n.toNat) (by omega)
  rw [prefT_nat h0, List.length_append, List.length_cons]
  omega
theorem portT_len {lo hi : Int} (h1 : lo < 4294967296) (h2 : hi < 4294967296) : (portT lo hi).length ≤ 21 := by
  have k1 := dec32 (n := lo.toNat) (by omega)
  have k2 := dec32 (n := hi.toNat) (by omega)
  unfold portT
  simp
  omega
theorem words_len (r : RuleV) (w1 w2 : List UInt8) (h1 : w1.length ≤ 20) (h2 : w2.length ≤ 20) (k0 : 0 ≤ r.sn) (k1 : r.sn ≤ 32) (k2 : 0 ≤ r.dn) (k3 : r.dn ≤ 32) :
    (Lib.join [w1, w2, prefT r.sa r.sn, prefT r.da r.dn, portT r.sl r.sh, portT r.dl r.dh] [32]).length ≤ 140737488355328 := by
  have a1 := prefT_len (a := r.sa) k0 k1
  have a2 := prefT_len (a := r.da) k2 k3
  have a3 := portT_len r.hsl.2 r.hsh.2
  have a4 := portT_len r.hdl.2 r.hdh.2
  rw [← joinC_join32]
  simp only [joinB32, List.length_append, List.length_cons]
  omega
theorem itoaN_any (n : Int) (h0 : 0 ≤ n) (h1 : n ≤ 9223372036854775807) (w : World) (hE : Env w) :
    Calls Tryz.prog 31 #[.int .i64 n] w fun e w' => e = .returned (.string ⟨(Lib.decDigits n.toNat).toArray⟩) ∧ Below w.heap.size w w' := by
  refine (Tryz.strconv_Itoa n (by omega) h1 w hE.tab).mono ?_
  rintro e w2 ⟨rfl, h⟩
  refine ⟨?_, below_of_grow h⟩
  obtain ⟨k, rfl⟩ := Int.eq_ofNat_of_zero_le h0
  rw [Lib.itoa_nonneg, Int.toNat_natCast]
theorem below_drew {B : Nat} {w V : World} (h : Below B w V) : Below B w V.drew := ⟨h.os, h.tape, h.output, h.size, h.block⟩
theorem cell_kept {V V' : World} {a : Addr} {v : Value} (h : Below V.heap.size V V') (c : V.cell? a = some v) : V'.cell? a = some v := (h.cell (block_lt_of_cell c)).trans c
/-- Words joined by blanks. -/
theorem joinW_any (L : List ByteArray) (g : Nat) (V : World) (h : V.heap[g]? = some (.cells (L.map Value.string).toArray 9 (0, 0))) (hpos : 0 < L.length) (hn : L.length ≤ 1000000) (hj : (Lib.join (L.map (·.data.toList)) [32]).length ≤ 140737488355328) :
    Calls Tryz.prog 32 #[.slice (some ⟨g, 0, none⟩) L.length L.length, .string ⟨#[32]⟩] V fun e V' => e = .returned (.string ⟨(Lib.join (L.map (·.data.toList)) [32]).toArray⟩) ∧ Below V.heap.size V V' := by
  have hJ := Tryz.strings_Join g 0 L.length L ⟨#[32]⟩ V (fun j x hj => by rw [Nat.zero_add]; exact cells_str h hj) (lt_of_block h) (by omega) (by omega) hj
  exact hJ
end Go.Proofs.YtakkgamhceignaaGreatDoor

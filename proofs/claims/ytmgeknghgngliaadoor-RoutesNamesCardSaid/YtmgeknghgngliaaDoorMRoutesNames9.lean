/-
  Joined texts: RtText, Rt1, Mix0, Kit3, At4.
-/
import Derived.Test.YtmgeknghgngliaaDoorMRoutesNames8
import Derived.OrdersHeld
import Derived.Deep.RegionHeld3
import Derived.Test.YtmgeknghgngliaaDoorMRoutesNames5
import Derived.Laws.OwnMore
import Derived.Test.YtmgeknghgngliaaDoorMRoutesNames7
/-
  The text of a route, and the route of a text: plain laws; no walk.
-/
namespace Go.Proofs.YtmgeknghgngliaaDoor
open Go Go.RowKit Go.Sort

/-- A route. -/
structure RtV where
  a : Int
  m : Int
  fr : Int
  di : Int
  me : Int
  ta : Int
  nm : List UInt8
  ho : Int
  dc : Bool
  ha : 0 ≤ a ∧ a < 4294967296
  hm : -9223372036854775808 ≤ m ∧ m ≤ 9223372036854775807
  hfr : 0 ≤ fr ∧ fr < 256
  hdi : -9223372036854775808 ≤ di ∧ di ≤ 9223372036854775807
  hme : -9223372036854775808 ≤ me ∧ me ≤ 9223372036854775807
  hta : -9223372036854775808 ≤ ta ∧ ta ≤ 9223372036854775807
  hho : 0 ≤ ho ∧ ho < 4294967296
instance : Inhabited RtV := ⟨⟨0, 0, 0, 0, 0, 0, [], 0, false, by omega, by omega, by omega, by omega, by omega, by omega, by omega⟩⟩
def connW : List UInt8 := [99, 111, 110, 110, 101, 99, 116, 101, 100]
def writW : List UInt8 := [119, 114, 105, 116, 116, 101, 110]
def intraW : List UInt8 := [105, 110, 116, 114, 97]
def interW : List UInt8 := [105, 110, 116, 101, 114]
def ext1W : List UInt8 := [101, 120, 116, 101, 114, 110, 97, 108, 49]
def ext2W : List UInt8 := [101, 120, 116, 101, 114, 110, 97, 108, 50]
def ebgpW : List UInt8 := [101, 98, 103, 112]
def ibgpW : List UInt8 := [105, 98, 103, 112]
def viaW : List UInt8 := [118, 105, 97]
def onW : List UInt8 := [111, 110]
def discW : List UInt8 := [100, 105, 115, 99, 97, 114, 100]
/-- The words of where routes come from. -/
def fromsL : List (List UInt8) := [[], connW, writW, intraW, interW, ext1W, ext2W, ebgpW, ibgpW]
def fromW (f : Int) : List UInt8 := fromsL[f.toNat]?.getD []
def letB (c : UInt8) : Bool := (decide (97 ≤ c.toNat) && decide (c.toNat ≤ 122)) || (decide (65 ≤ c.toNat) && decide (c.toNat ≤ 90))
def restB (c : UInt8) : Bool := (decide (48 ≤ c.toNat) && decide (c.toNat ≤ 57)) || decide (c.toNat = 45) || decide (c.toNat = 95) || decide (c.toNat = 46) || decide (c.toNat = 47)
/-- Is it a name? -/
def nameB (l : List UInt8) : Bool := match l with
  | [] => false
  | c :: r => decide (l.length ≤ 32) && letB c && r.all fun x => letB x || restB x
def fineB (n : Int) : Bool := decide (0 ≤ n) && decide (n ≤ 2147483647)
/-- May the route be written? -/
def RtV.ok (r : RtV) : Bool := decide (chk r.a r.m = 0) && decide (1 ≤ r.fr) && decide (r.fr ≤ 8) && fineB r.di && fineB r.me && fineB r.ta && (decide (r.nm = []) || nameB r.nm) && (!r.dc || (decide (r.ho = 0) && decide (r.nm = [])))
def RtV.hopW (r : RtV) : List (List UInt8) := if r.ho = 0 then [] else [viaW, (textA r.ho.toNat).data.toList]
def RtV.nmW (r : RtV) : List (List UInt8) := if r.nm = [] then [] else [onW, r.nm]
def RtV.dcW (r : RtV) : List (List UInt8) := if r.dc then [discW] else []
def RtV.words (r : RtV) : List (List UInt8) := [prefT r.a r.m, fromW r.fr, Lib.decDigits r.di.toNat, Lib.decDigits r.me.toNat, Lib.decDigits r.ta.toNat] ++ (r.hopW ++ (r.nmW ++ r.dcW))
def RtV.text (r : RtV) : List UInt8 := Lib.join r.words [32]
theorem fine_iff {n : Int} : fineB n = true ↔ 0 ≤ n ∧ n ≤ 2147483647 := by simp [fineB]
theorem rt_ok {r : RtV} (h : r.ok = true) : chk r.a r.m = 0 ∧ 1 ≤ r.fr ∧ r.fr ≤ 8 ∧ (0 ≤ r.di ∧ r.di ≤ 2147483647) ∧ (0 ≤ r.me ∧ r.me ≤ 2147483647) ∧ (0 ≤ r.ta ∧ r.ta ≤ 2147483647) ∧ (r.nm = [] ∨ nameB r.nm = true) ∧ (r.dc = true → r.ho = 0 ∧ r.nm = []) := by
  simp only [RtV.ok, Bool.and_eq_true, decide_eq_true_eq, fine_iff, Bool.or_eq_true, Bool.not_eq_true'] at h
  obtain ⟨⟨⟨⟨⟨⟨⟨h1, h2⟩, h3⟩, h4⟩, h5⟩, h6⟩, h7⟩, h8⟩ := h
  refine ⟨h1, h2, h3, h4, h5, h6, h7, fun hd => ?_⟩
  rcases h8 with h8 | h8
  · rw [hd] at h8; cases h8
  · exact h8
theorem name_no {l : List UInt8} (h : nameB l = true) : (32 : UInt8) ∉ l := by
  match l, h with
  | c :: r, h =>
    simp only [nameB, Bool.and_eq_true, List.all_eq_true] at h
    intro hm
    rcases List.mem_cons.1 hm with rfl | hm
    · exact absurd h.1.2 (by decide)
    · exact absurd (h.2 _ hm) (by decide)
theorem from_cases {f : Int} (h1 : 1 ≤ f) (h2 : f ≤ 8) : f = 1 ∨ f = 2 ∨ f = 3 ∨ f = 4 ∨ f = 5 ∨ f = 6 ∨ f = 7 ∨ f = 8 := by omega
theorem from_no {f : Int} (h1 : 1 ≤ f) (h2 : f ≤ 8) : (32 : UInt8) ∉ fromW f := by
  rcases from_cases h1 h2 with rfl | rfl | rfl | rfl | rfl | rfl | rfl | rfl <;> decide
theorem rt_words_no {r : RtV} (h : r.ok = true) : ∀ x ∈ r.words, (32 : UInt8) ∉ x := by
  obtain ⟨h1, h2, h3, h4, h5, h6, h7, h8⟩ := rt_ok h
  have k1 := chk_ok h1
  intro x hx
  simp only [RtV.words, List.mem_append, List.mem_cons, List.not_mem_nil, or_false] at hx
  rcases hx with (rfl | rfl | rfl | rfl | rfl) | hx | hx | hx
  · exact prefT_no k1.1
  · exact from_no h2 h3
  · exact not_dec (by decide) _
  · exact not_dec (by decide) _
  · exact not_dec (by decide) _
  · unfold RtV.hopW at hx
    split at hx
    · cases hx
    · simp only [List.mem_cons, List.not_mem_nil, or_false] at hx
      rcases hx with rfl | rfl
      · decide
      · exact not_text (by decide) (by decide) _
  · unfold RtV.nmW at hx
    split at hx
    · cases hx
    · rename_i hne
      simp only [List.mem_cons, List.not_mem_nil, or_false] at hx
      rcases hx with rfl | rfl
      · decide
      · rcases h7 with h7 | h7
        · exact absurd h7 hne
        · exact name_no h7
  · unfold RtV.dcW at hx
    split at hx
    · simp only [List.mem_cons, List.not_mem_nil, or_false] at hx
      rw [hx]; decide
    · cases hx
theorem rt_words {r : RtV} (h : r.ok = true) : pieces 32 r.text = r.words := pieces_joinL 32 _ (by simp [RtV.words]) (rt_words_no h)
theorem rt_ext {r q : RtV} (h0 : r.a = q.a) (h1 : r.m = q.m) (h2 : r.fr = q.fr) (h3 : r.di = q.di) (h4 : r.me = q.me) (h5 : r.ta = q.ta) (h6 : r.nm = q.nm) (h7 : r.ho = q.ho) (h8 : r.dc = q.dc) : r = q := by
  cases r; cases q; simp_all
/-- The number of a word as the program reads it. -/
def num31 (w : List UInt8) : Int := match Lib.parseUintB 31 w with | .ok n => n | _ => -1
/-- What is read of the words behind the first five: hop, name, discard. -/
def restR (w : List (List UInt8)) : Int × List UInt8 × Bool :=
  let h : Int × List (List UInt8) := match w with
    | v :: x :: t => if v = viaW then (adV (parseB x), t) else (0, w)
    | _ => (0, w)
  let n : List UInt8 × List (List UInt8) := match h.2 with
    | v :: x :: t => if v = onW then (x, t) else ([], h.2)
    | _ => ([], h.2)
  (h.1, n.1, !n.2.isEmpty)
/-- The index of a word among those of where routes come from; 0, if it is none. -/
def fromI (w : List UInt8) : Int := ((fromsL.idxOf? w).getD 0 : Nat)
theorem fromI_W {f : Int} (h1 : 1 ≤ f) (h2 : f ≤ 8) : fromI (fromW f) = f := by
  rcases from_cases h1 h2 with rfl | rfl | rfl | rfl | rfl | rfl | rfl | rfl <;> decide
theorem uint31_digits {n : Nat} (h : n < 2147483648) : Lib.parseUintB 31 (Lib.decDigits n) = .ok n := uint_digits (by decide) (by rw [show (2 : Nat) ^ 31 - 1 = 2147483647 from rfl]; omega)
theorem uint31_le {l : List UInt8} {n : Nat} (h : Lib.parseUintB 31 l = .ok n) : n < 2147483648 := by
  have := Lib.parseUintB_le h
  have e : (2 : Nat) ^ 31 - 1 = 2147483647 := by decide
  omega
theorem num31_dec {n : Int} (h0 : 0 ≤ n) (h1 : n ≤ 2147483647) : num31 (Lib.decDigits n.toNat) = n := by
  unfold num31
  rw [uint31_digits (by omega)]
  show ((n.toNat : Nat) : Int) = n
  omega
theorem num31_lt (w : List UInt8) : -1 ≤ num31 w ∧ num31 w ≤ 2147483647 := by
  unfold num31
  split
  · rename_i n h
    have := uint31_le h
    omega
  · omega
theorem fromI_lt (w : List UInt8) : 0 ≤ fromI w ∧ fromI w < 9 := by
  unfold fromI
  cases h : fromsL.idxOf? w with
  | none => simp
  | some k =>
    have : k < fromsL.length := by
      rw [List.idxOf?, List.findIdx?_eq_some_iff_getElem] at h
      exact h.1
    have e : fromsL.length = 9 := rfl
    simp only [Option.getD_some]
    omega
theorem adV_lt (l : List UInt8) : 0 ≤ adV (parseB l) ∧ adV (parseB l) < 4294967296 := by
  cases h : parseB l with
  | none => simp [adV]
  | some n =>
    have := parseB_lt h
    simp only [adV, Option.getD_some]
    omega
theorem adV_text {a : Int} (h0 : 0 ≤ a) (h1 : a < 4294967296) : adV (parseB (textA a.toNat).data.toList) = a := by
  rw [parse_text _ (by omega)]
  show ((a.toNat : Nat) : Int) = a
  omega
theorem restR_lt (w : List (List UInt8)) : 0 ≤ (restR w).1 ∧ (restR w).1 < 4294967296 := by
  unfold restR
  match w with
  | [] => simp
  | [v] => simp
  | v :: x :: t =>
    by_cases h : v = viaW
    · simp only [h, if_true]
      exact adV_lt x
    · simp only [if_neg h]
      omega
/-- The route that is read of the words w0 .. w4 and of what is behind them. -/
def candR (w0 w1 w2 w3 w4 : List UInt8) (rest : List (List UInt8)) : RtV where
  a := ppA w0
  m := ppN w0
  fr := fromI w1
  di := num31 w2
  me := num31 w3
  ta := num31 w4
  nm := (restR rest).2.1
  ho := (restR rest).1
  dc := (restR rest).2.2
  ha := ppA_lt w0
  hm := by have := ppN_range w0; omega
  hfr := by have := fromI_lt w1; omega
  hdi := by have := num31_lt w2; omega
  hme := by have := num31_lt w3; omega
  hta := by have := num31_lt w4; omega
  hho := restR_lt rest
theorem on_via : onW ≠ viaW := by decide
theorem restR_words {r : RtV} (h : r.ok = true) : restR (r.hopW ++ (r.nmW ++ r.dcW)) = (r.ho, r.nm, r.dc) := by
  obtain ⟨_, _, _, _, _, _, h7, h8⟩ := rt_ok h
  have hh := r.hho
  have e := adV_text hh.1 hh.2
  have k1 : onW ≠ viaW := by decide
  have k2 : discW ≠ viaW := by decide
  have k3 : discW ≠ onW := by decide
  unfold RtV.hopW RtV.nmW RtV.dcW
  by_cases h0 : r.ho = 0 <;> by_cases hn : r.nm = [] <;> cases hd : r.dc <;> simp_all [restR]
theorem candR_words {r : RtV} (h : r.ok = true) : candR (prefT r.a r.m) (fromW r.fr) (Lib.decDigits r.di.toNat) (Lib.decDigits r.me.toNat) (Lib.decDigits r.ta.toNat) (r.hopW ++ (r.nmW ++ r.dcW)) = r := by
  obtain ⟨h1, h2, h3, h4, h5, h6, h7, h8⟩ := rt_ok h
  have a1 := ppO_T r.ha.1 r.ha.2 h1
  have a2 := restR_words h
  refine rt_ext a1.1 a1.2.1 (fromI_W h2 h3) (num31_dec h4.1 h4.2) (num31_dec h5.1 h5.2) (num31_dec h6.1 h6.2) ?_ ?_ ?_
  · show (restR _).2.1 = _; rw [a2]
  · show (restR _).1 = _; rw [a2]
  · show (restR _).2.2 = _; rw [a2]
theorem rt_five {r : RtV} (h : r.ok = true) : ppE (prefT r.a r.m) = 0 := (ppO_T r.ha.1 r.ha.2 (rt_ok h).1).2.2
theorem rt_inj {r q : RtV} (h : r.ok = true) (hq : q.ok = true) (e : r.text = q.text) : r = q := by
  have w := rt_words h
  rw [e, rt_words hq] at w
  unfold RtV.words at w
  simp only [List.cons_append, List.nil_append] at w
  injection w with w0 w
  injection w with w1 w
  injection w with w2 w
  injection w with w3 w
  injection w with w4 w
  rw [← candR_words h, ← candR_words hq, w0, w1, w2, w3, w4, w]
open Classical in
/-- The route that a text is the text of. -/
noncomputable def roO (l : List UInt8) : Option RtV := if h : ∃ r : RtV, r.ok = true ∧ r.text = l then some h.choose else none
theorem roO_text {r : RtV} (h : r.ok = true) : roO r.text = some r := by
  have he : ∃ q : RtV, q.ok = true ∧ q.text = r.text := ⟨r, h, rfl⟩
  unfold roO
  rw [dif_pos he, rt_inj he.choose_spec.1 h he.choose_spec.2]
theorem roO_some {l : List UInt8} {r : RtV} (h : roO l = some r) : r.ok = true ∧ r.text = l := by
  unfold roO at h
  split at h
  · rename_i he
    injection h with h
    rw [← h]
    exact he.choose_spec
  · cases h
theorem roO_no {l : List UInt8} (h : ∀ r : RtV, r.ok = true → r.text = l → False) : roO l = none := by
  cases e : roO l with
  | none => rfl
  | some r => exact (h r (roO_some e).1 (roO_some e).2).elim
theorem rt_len {r : RtV} {l : List UInt8} (h : r.ok = true) (hl : r.text = l) : 5 ≤ (pieces 32 l).length := by
  rw [← hl, rt_words h]
  simp [RtV.words]
theorem roO_len {l : List UInt8} (h : (pieces 32 l).length < 5) : roO l = none := roO_no fun _ h1 h2 => by have := rt_len h1 h2; omega
theorem roO_cand {l w0 w1 w2 w3 w4 : List UInt8} {rest : List (List UInt8)} (hp : pieces 32 l = w0 :: w1 :: w2 :: w3 :: w4 :: rest) :
    roO l = if ppE w0 = 0 ∧ (candR w0 w1 w2 w3 w4 rest).ok = true ∧ (candR w0 w1 w2 w3 w4 rest).text = l then some (candR w0 w1 w2 w3 w4 rest) else none := by
  split
  · rename_i h
    have e := roO_text h.2.1
    rw [h.2.2] at e
    exact e
  · rename_i h
    refine roO_no fun r hr ht => h ?_
    have w := rt_words hr
    rw [ht, hp] at w
    unfold RtV.words at w
    simp only [List.cons_append, List.nil_append] at w
    injection w with w0 w
    injection w with w1 w
    injection w with w2 w
    injection w with w3 w
    injection w with w4 w
    subst w0 w1 w2 w3 w4 w
    rw [candR_words hr]
    exact ⟨rt_five hr, hr, ht⟩
/-- What Parse answers. -/
noncomputable def roV (l : List UInt8) : RtV := (roO l).getD default
noncomputable def roE (l : List UInt8) : Int := if (roO l).isSome then 0 else 4
theorem ro_none {l : List UInt8} (h : roO l = none) : roV l = default ∧ roE l = 4 := by unfold roV roE; rw [h]; exact ⟨rfl, rfl⟩
theorem ro_some {l : List UInt8} {r : RtV} (h : roO l = some r) : roV l = r ∧ roE l = 0 := by unfold roV roE; rw [h]; exact ⟨rfl, rfl⟩
end Go.Proofs.YtmgeknghgngliaaDoor

/-
  Walks over the layer of routes: fine, froms, line, side.
-/
namespace Go.Proofs.YtmgeknghgngliaaDoor
open Go Go.RowKit Go.Lib Go.Sort

theorem fine1_any (n : Int) (w : World) : Calls Tryd.prog 75 #[.int .i64 n] w fun e w' => e = .returned (.bool (!fineB n)) ∧ w = w' := by
  by_cases h0 : n < 0
  · have d1 : decide (n < 0) = true := by simp [h0]
    have hz : fineB n = false := by unfold fineB; simp; omega
    have hzz := Lib.hid hz
    clear hz
    go_enter Tryd.func75, Tryd.ntmps75
    go_wp2
    go_ret
    exact ⟨by rw [hzz.out]; rfl, rfl⟩
  · have d1 : decide (n < 0) = false := by simp; omega
    by_cases h1 : 2147483647 < n
    · have d2 : decide (2147483647 < n) = true := by simp [h1]
      have hz : fineB n = false := by unfold fineB; simp; omega
      have hzz := Lib.hid hz
      clear hz
      go_enter Tryd.func75, Tryd.ntmps75
      go_wp2
      go_ret
      exact ⟨by rw [hzz.out]; rfl, rfl⟩
    · have d2 : decide (2147483647 < n) = false := by simp; omega
      have hz : fineB n = true := by unfold fineB; simp; omega
      have hzz := Lib.hid hz
      clear hz
      go_enter Tryd.func75, Tryd.ntmps75
      go_wp2
      go_ret
      exact ⟨by rw [hzz.out]; rfl, rfl⟩
set_option maxHeartbeats 1000000 in
theorem fineIdx_any (L : List Int) (v : Value) (w : World) (h : Rd w w.heap.size 1 v L.length (L.map (Value.int .i64))) (hlen : L.length ≤ 1000000) :
    Calls Tryd.prog 105 #[v, .func (.func 75) #[] #[]] w fun e w' => (∃ i : Int, e = .returned (.int .i64 i) ∧ decide (0 ≤ i) = !(L.all fineB)) ∧ Below w.heap.size w w' := by
  obtain ⟨A, c, rfl, _⟩ := h.form
  have HL := Lib.hid h
  clear h
  go_enter Tryd.func105, Tryd.ntmps105
  go_wp2
  go_loopw [8] (fun i wr => ∃ j : Nat, i = .int .i64 j ∧ j ≤ L.length ∧ Hid ((L.take j).all fineB = true) ∧ Below w.heap.size w wr) (fun i _ => L.length - (intOf i).toNat)
  case atStart => exact ⟨0, rfl, by omega, Lib.hid (by simp), Below.refl _ _⟩
  case round =>
    obtain ⟨j, rfl, hj, ha, hnx⟩ := hrel
    have hsz := hnx.size
    by_cases hlt : j < L.length
    · have hI : (j : Int) < (L.length : Int) := by omega
      obtain ⟨x, hx⟩ : ∃ x, L[j]? = some x := ⟨_, List.getElem?_eq_getElem hlt⟩
      obtain ⟨b, off, c', hv, _, hbB, hcell⟩ := (HL.out.below hnx).posAt (by omega)
      injection hv with hv1 _ hv3
      subst hv1 hv3
      have f0 : wr.cell? ⟨b, off + j, none⟩ = some (.int .i64 x) := by
        have h := hcell j 0 (.int .i64 x) (by simp [hx])
        simpa using h
      have ht := Lib.hid (show (L.take (j + 1)).all fineB = fineB x by rw [List.take_add_one, hx, List.all_append, ha.out]; simp)
      have hd := Lib.hid (show fineB x = false → L.all fineB = false from fun h => by
        cases e : L.all fineB with
        | false => rfl
        | true => have := List.all_eq_true.1 e x (List.mem_of_getElem? hx); rw [h] at this; cases this)
      have hc := Lib.hid (fine1_any x wr)
      clear hcell hx ha
      cases hf : fineB x with
      | true =>
        rw [hf] at hc ht
        go_wp2_with fail
        refine hc.out.mono ?_
        rintro e w2 ⟨rfl, rfl⟩
        go_wp2
        exact ⟨⟨j + 1, by go_num, by omega, ht, hnx⟩, by simp only [intOf]; omega⟩
      | false =>
        rw [hf] at hc
        have hz := hd.out hf
        have hzz := Lib.hid hz
        clear hz
        go_wp2_with fail
        refine hc.out.mono ?_
        rintro e w2 ⟨rfl, rfl⟩
        go_wp2
        go_ret
        exact ⟨⟨_, rfl, by rw [hzz.out]; simp⟩, hnx⟩
    · obtain rfl : j = L.length := by omega
      have hI : ¬ (L.length : Int) < (L.length : Int) := by omega
      have hz := ha.out
      rw [List.take_length] at hz
      have hzz := Lib.hid hz
      clear hz ha
      go_wp2
      go_ret
      exact ⟨⟨_, rfl, by rw [hzz.out]; decide⟩, hnx⟩
set_option maxHeartbeats 1000000 in
theorem fine_any (L : List Int) (v : Value) (w : World) (h : Rd w w.heap.size 1 v L.length (L.map (Value.int .i64))) (hlen : L.length ≤ 1000000) :
    Calls Tryd.prog 31 #[v] w fun e w' => e = .returned (.bool (L.all fineB)) ∧ Below w.heap.size w w' := by
  have hi := Lib.hid (fineIdx_any L v w h hlen)
  have hc : Calls Tryd.prog 74 #[v, .func (.func 75) #[] #[]] w fun e w' => e = .returned (.bool (!(L.all fineB))) ∧ Below w.heap.size w w' := by
    go_enter Tryd.func74, Tryd.ntmps74
    go_wp2_with fail
    refine hi.out.mono ?_
    rintro e w1 ⟨⟨i, rfl, hd⟩, hb⟩
    have HD := Lib.hid hd
    go_wp2
    go_ret
    exact ⟨by rw [← HD.out]; rfl, hb⟩
  have HC := Lib.hid hc
  clear hc hi h
  go_enter Tryd.func31, Tryd.ntmps31
  go_wp2_with fail
  refine HC.out.mono ?_
  rintro e w1 ⟨rfl, hb⟩
  go_wp2
  go_ret
  exact ⟨by simp, hb⟩
def fromsBlk : Array Value := (fromsL.map fun l => Value.string ⟨l.toArray⟩).toArray
theorem froms_any (w : World) : Calls Tryd.prog 30 #[] w fun e w' => e = .returned (.slice (some ⟨w.heap.size, 0, none⟩) 9 9) ∧ w' = w.alloc (.cells fromsBlk 9) := by
  go_enter Tryd.func30, Tryd.ntmps30
  go_wp2
  go_ret
  exact ⟨rfl, rfl⟩
theorem side_any (b : Bool) (w : World) : Calls Tryd.prog 37 #[.bool b] w fun e w' => e = .returned (.string ⟨(if b then [101, 120, 116, 101, 114, 110, 97, 108] else [105, 110, 116, 101, 114, 110, 97, 108] : List UInt8).toArray⟩) ∧ w = w' := by
  go_enter Tryd.func37, Tryd.ntmps37
  cases b
  all_goals (go_wp2; go_ret; exact ⟨rfl, rfl⟩)
theorem line_any (L : List ByteArray) (g : Nat) (V : World) (h : V.heap[g]? = some (.cells (L.map Value.string).toArray 9 (0, 0))) (hpos : 0 < L.length) (hn : L.length ≤ 1000000) (hj : (Lib.join (L.map (·.data.toList)) [32]).length ≤ 140737488355328) :
    Calls Tryd.prog 36 #[.slice (some ⟨g, 0, none⟩) L.length L.length] V fun e V' => e = .returned (.string ⟨(Lib.join (L.map (·.data.toList)) [32]).toArray⟩) ∧ Below V.heap.size V V' := by
  have hJ := Lib.hid (joinW_any L g V h hpos hn hj)
  clear h hj
  go_enter Tryd.func36, Tryd.ntmps36
  go_wp2_with fail
  refine hJ.out.mono ?_
  rintro e w1 ⟨rfl, hb⟩
  go_wp2
  go_ret
  exact ⟨rfl, hb⟩
end Go.Proofs.YtmgeknghgngliaaDoor

/-
  A region that draws its order, walked in the order of the text: plain operations, each of which may be taken first, and barriers, each of which comes up alone: no program in sight.
-/
namespace Go.Proofs.YtmgeknghgngliaaDoor
open Go Go.RowKit Go.Sort

section
variable {P : Program} {ops : Array Oper} {md : Region.Mode} {S : World → Prop} {Q : Exit → Act → World → Prop}
/-- An operation that hands back a value, or stops. -/
def plainB : Op → Bool
  | .move _ | .assign _ | .pick _ _ _ | .load _ _ | .fieldAddr _ _ _ | .indexAddr _ _ _ | .binOp _ _ _ _ _ | .unOp _ _ _ | .convert _ _ _ | .build _ _ | .extract _ _ => true
  | _ => false
theorem then_value {α : Type} {r : Result α} {f : α → Value} {n : Go.Next} {w' : World} (h : (r.andThen fun x v => .ok (Go.Next.value (f x)) v) = .ok n w') : ∃ v, n = .value v := by
  cases r with
  | ok x v => simp only [Result.andThen_ok] at h; injection h with h _; exact ⟨_, h.symm⟩
  | halt x v => cases h
theorem plain_value {o : Oper} (h : plainB o.op = true) {ρ : Operand → Value} {w w' : World} {n : Go.Next} (hr : (execOp ρ o).run P w = .ok n w') : ∃ v, n = .value v := by
  obtain ⟨dst, op, type, pos, after, guard⟩ := o
  cases op <;> simp only [plainB] at h
  all_goals first
    | (cases h; done)
    | (simp only [execOp, Sem.run_bind, Sem.run_pure] at hr; first | exact then_value (f := fun x => x) hr | exact then_value hr | (injection hr with hr _; exact ⟨_, hr.symm⟩))
theorem yields_quiet {o : Oper} {a : Act} {K : Act → Prop} (h : plainB o.op = true) (hq : o.quiet P a S K) : ∃ v, (∀ w, S w → (execOp a.eval o).run P w = .ok (.value v) w) ∧ K (a.put o.dst v) := by
  obtain ⟨v, h1, h2⟩ := hq
  refine ⟨v, fun w hw => ?_, h2⟩
  have h3 := h1 w hw
  unfold Oper.quietAt at h3
  generalize hr : (execOp a.eval o).run P w = r at h3
  cases r with
  | ok n w' =>
    obtain ⟨u, rfl⟩ := plain_value h hr
    simp only [Oper.quietUpon] at h3
    rw [h3.1, h3.2]
  | halt x w' => simp only [Oper.quietUpon] at h3
/-- The region's edges bear this walk: a plain operation may be taken first, a barrier comes up alone. -/
def mixB (md : Region.Mode) (ops : Array Oper) : List (Nat × Bool) → Array Bool → Bool
  | [], listed => (Region.ready md ops listed).isEmpty
  | (k, false) :: m, listed => (Region.ready md ops listed).contains k && Region.free md ops listed k && (match ops[k]? with | some o => plainB o.op | none => false) && mixB md ops m (listed.setIfInBounds k true)
  | (k, true) :: m, listed => decide (Region.ready md ops listed = [k]) && mixB md ops m (listed.setIfInBounds k true)
/-- The walk; behind a barrier the class of worlds may be made narrower. -/
def mixW (P : Program) (ops : Array Oper) (Q : Exit → Act → World → Prop) : List (Nat × Bool) → (World → Prop) → Act → World → Prop
  | [], _, a, w => Q .normal a w
  | (k, false) :: m, S, a, w => ∃ o, ops[k]? = some o ∧ if Region.wanted o (yielded ops a.tmps) then o.quiet P a S (fun a' => mixW P ops Q m S a' w) else mixW P ops Q m S (a.put o.dst undef) w
  | (k, true) :: m, S, a, w => ∃ o, ops[k]? = some o ∧ if Region.wanted o (yielded ops a.tmps) then o.wp P a w (fun a' w' => ∃ S' : World → Prop, S' w' ∧ (∀ v, S' v → S v) ∧ mixW P ops Q m S' a' w') Q else mixW P ops Q m S (a.put o.dst undef) w
theorem wpAnyH_class {S S' : World → Prop} (h : ∀ v, S' v → S v) : ∀ (fuel : Nat) (listed : Array Bool) (a : Act) (w : World), wpAnyH P md ops Q S' fuel listed a w → wpAnyH P md ops Q S fuel listed a w
  | 0, _, _, _, hh => hh
  | f + 1, _, _, _, hh => ⟨hh.1, fun i hi => wpOp_mono (fun a' w' hk => ⟨h _ hk.1, wpAnyH_class h f _ a' w' hk.2⟩) (hh.2 i hi)⟩
theorem mix_sound (hs : Region.noSelect ops = true) (hQ : ∀ d v c a w, Q (.panic c) (Act.put a d v) w → Q (.panic c) a w) :
    ∀ (m : List (Nat × Bool)) (S : World → Prop) (listed : Array Bool) (a : Act) (w : World), mixB md ops m listed = true → S w → mixW P ops Q m S a w → wpAnyH P md ops Q S m.length listed a w := by
  intro m
  induction m with
  | nil =>
    intro S listed a w hB _ h
    exact ⟨by simpa [mixB] using hB, h⟩
  | cons b m ih =>
    intro S listed a w hB hS h
    obtain ⟨k, b⟩ := b
    cases b with
    | false =>
      simp only [mixW] at h
      obtain ⟨o, h0, h⟩ := h
      simp only [mixB, Bool.and_eq_true, h0] at hB
      obtain ⟨⟨⟨hr, hf⟩, hp⟩, hB'⟩ := hB
      by_cases hw : Region.wanted o (yielded ops a.tmps) = true
      · rw [if_pos hw] at h
        obtain ⟨v, hv, hK⟩ := yields_quiet hp h
        exact wpAnyH_take h0 hs hf hr (fun c a w => hQ o.dst v c a w) (.inl ⟨hw, hv⟩) hS (ih S _ _ w hB' hS hK)
      · rw [if_neg hw] at h
        exact wpAnyH_take h0 hs hf hr (fun c a w => hQ o.dst undef c a w) (.inr ⟨by simpa using hw, rfl⟩) hS (ih S _ _ w hB' hS h)
    | true =>
      simp only [mixW] at h
      obtain ⟨o, h0, h⟩ := h
      simp only [mixB, Bool.and_eq_true, decide_eq_true_eq] at hB
      obtain ⟨hr, hB'⟩ := hB
      refine wpAnyH_all hr (by simp) fun i hi => ?_
      obtain rfl : i = k := by simpa using hi
      unfold wpOp
      simp only [h0]
      by_cases hw : Region.wanted o (yielded ops a.tmps) = true
      · rw [if_pos hw] at h ⊢
        refine .inl (Oper.wp_mono (fun a' w' hh => ?_) h)
        obtain ⟨S', h1, h2, h3⟩ := hh
        exact ⟨h2 _ h1, wpAnyH_class h2 _ _ _ _ (ih S' _ a' w' hB' h1 h3)⟩
      · rw [if_neg hw] at h ⊢
        exact ⟨hS, ih S _ _ w hB' hS h⟩
/-- Some plain operations in a row, as a quiet walk. -/
theorem mix_seg {m : List (Nat × Bool)} : ∀ (ks : List Nat) (seg : List Oper) (a : Act) (w : World), ks.map (fun k => ops[k]?) = seg.map some → wpQuiet P ops S (fun a' => mixW P ops Q m S a' w) seg a → mixW P ops Q (ks.map (fun k => (k, false)) ++ m) S a w
  | [], [], _, _, _, h => h
  | [], _ :: _, _, _, hk, _ => by cases hk
  | _ :: _, [], _, _, hk, _ => by cases hk
  | k :: ks, o :: seg, a, w, hk, h => by
    simp only [List.map_cons] at hk
    injection hk with hk1 hk2
    have h' : (if Region.wanted o (yielded ops a.tmps) then o.quiet P a S (wpQuiet P ops S (fun a' => mixW P ops Q m S a' w) seg) else wpQuiet P ops S (fun a' => mixW P ops Q m S a' w) seg (a.put o.dst undef)) := h
    show ∃ o, ops[k]? = some o ∧ (if Region.wanted o (yielded ops a.tmps) then o.quiet P a S (fun a' => mixW P ops Q (ks.map (fun k => (k, false)) ++ m) S a' w) else mixW P ops Q (ks.map (fun k => (k, false)) ++ m) S (a.put o.dst undef) w)
    refine ⟨o, hk1, ?_⟩
    split
    · rename_i hw
      rw [if_pos hw] at h'
      exact Oper.quiet_mono (fun a' hh => mix_seg ks seg a' w hk2 hh) h'
    · rename_i hw
      rw [if_neg hw] at h'
      exact mix_seg ks seg _ w hk2 h'
def mixOk (l : List Oper) (m : List (Nat × Bool)) : Bool := Region.noSelect l.toArray && decide (m.length = l.length) && mixB .any l.toArray m (Array.replicate l.length false)
/-- The worlds that are W, drawn and grown. -/
@[reducible] def ClassOf (W : World) : World → Prop := fun w' => ∃ p : Regrown, w' = grow (redrawn W p.d) p.os
theorem class_sub {W V : World} (h : Below W.heap.size W V) : ∀ v, ClassOf V v → ClassOf W v := by
  rintro v ⟨p, rfl⟩
  exact regrown_of_below (h.trans ((below_regrown V p.d p.os).mono h.size))
theorem class_self (V : World) : ClassOf V V := regrown_of_below (Below.refl _ _)
theorem wp_region_mix {id : Nat} {a : Act} {w : World} {l : List Oper} (m : List (Nat × Bool)) (hm : P.follows .mixedOrders = true) (hB : mixOk l m = true)
    (h : mixW P l.toArray (NoPanic Q) m (fun w' => ∃ p : Regrown, w' = grow (redrawn w p.d) p.os) a { w with drawn := w.drawn + 1 }) : (Code.region id l.toArray true).wp P Q a w := by
  simp only [mixOk, Bool.and_eq_true, decide_eq_true_eq] at hB
  obtain ⟨⟨hs, hlen⟩, hmix⟩ := hB
  refine wp_region_noPanic (wp_region_held (S := fun w' => ∃ p : Regrown, w' = grow (redrawn w p.d) p.os) hm ?_)
  have H := mix_sound (md := .any) hs (fun d v c a w hh => hh) m _ (Array.replicate l.length false) a { w with drawn := w.drawn + 1 } hmix ⟨⟨w.drawn + 1, #[]⟩, by rw [grow_empty]; rfl⟩ h
  rw [hlen] at H
  simpa using H
theorem mix_take {m m' : List (Nat × Bool)} {a : Act} {w : World} (ks : List Nat) (seg : List Oper) (hm : m = ks.map (fun k => (k, false)) ++ m') (hs : ks.map (fun k => ops[k]?) = seg.map some) (h : wpQuiet P ops S (fun a' => mixW P ops Q m' S a' w) seg a) : mixW P ops Q m S a w := by
  rw [hm]
  exact mix_seg ks seg a w hs h
/-- A barrier; the class as it is. -/
theorem mix_bar {m : List (Nat × Bool)} {k : Nat} {o : Oper} {a : Act} {w : World} (ho : ops[k]? = some o) (hw : Region.wanted o (yielded ops a.tmps) = true) (h : o.wp P a w (fun a' w' => S w' ∧ mixW P ops Q m S a' w') Q) : mixW P ops Q ((k, true) :: m) S a w := by
  simp only [mixW]
  refine ⟨o, ho, ?_⟩
  rw [if_pos hw]
  exact Oper.wp_mono (fun a' w' hh => ⟨S, hh.1, fun _ h => h, hh.2⟩) h
/-- A barrier behind which the class is that of the new world. -/
theorem mix_new {m : List (Nat × Bool)} {k : Nat} {o : Oper} {a : Act} {W w : World} (ho : ops[k]? = some o) (hw : Region.wanted o (yielded ops a.tmps) = true) (h : o.wp P a w (fun a' w' => Below W.heap.size W w' ∧ mixW P ops Q m (fun v => ∃ p : Regrown, v = grow (redrawn w' p.d) p.os) a' w') Q) : mixW P ops Q ((k, true) :: m) (fun v => ∃ p : Regrown, v = grow (redrawn W p.d) p.os) a w := by
  simp only [mixW]
  refine ⟨o, ho, ?_⟩
  rw [if_pos hw]
  exact Oper.wp_mono (fun a' w' hh => ⟨_, class_self w', class_sub hh.1, hh.2⟩) h
theorem mix_not {m : List (Nat × Bool)} {k : Nat} {o : Oper} {a : Act} {w : World} (ho : ops[k]? = some o) (hw : Region.wanted o (yielded ops a.tmps) = false) (h : mixW P ops Q m S (a.put o.dst undef) w) : mixW P ops Q ((k, true) :: m) S a w := by
  simp only [mixW]
  refine ⟨o, ho, ?_⟩
  rw [if_neg (by rw [hw]; exact Bool.false_ne_true)]
  exact h
theorem mix_end {a : Act} {w : World} (h : Q .normal a w) : mixW P ops (NoPanic Q) [] S a w := h
theorem below_drawn (w : World) : Below w.heap.size w { w with drawn := w.drawn + 1 } := ⟨rfl, rfl, rfl, Nat.le_refl _, fun _ _ => rfl⟩
end
end Go.Proofs.YtmgeknghgngliaaDoor

/-
  Small general lemmas, the third text: one element appended to a row of the call's own; no program in sight.
-/
namespace Go.Proofs.YtmgeknghgngliaaDoor
open Go Go.RowKit

/-- One element (its cells have just been laid in a block of their own) is appended to a row of the call's own. -/
theorem wpList_push {P : Program} {ops : Array Oper} {rest : List Oper} {o : Oper} {a : Act} {Q : Exit → Act → World → Prop} (hgd : o.guard = none) (s x : Operand) (t : TypeId)
    (ho : o.op = .call { callee := .builtin .append, args := #[s, x], argTypes := #[t, t] })
    (e : TypeId) (i : TypeInfo) (z : Value) (size bytes : Nat) (ht : P.underlying t = some (.slice e)) (hi : P.info? e = some i) (hz : i.zero = some z)
    (hsize : i.size = size) (hby : i.bytes = bytes) (hzs : z.cells.size = size) (hsz : 0 < size) (hb64 : bytes ≤ 64)
    {w0 : World} {base n : Nat} {v : Value} {xs : List Value} (es : List Value) (hs : a.eval s = v) {g0 : Nat} (hx : a.eval x = .slice (some ⟨g0, 0, none⟩) 1 1) (hg0 : g0 = w0.heap.size)
    (hown : w0.ownsRow base e size v n xs) (hes : es.length = size) (h1 : ∀ u ∈ es, u.oneCell' = true) (hn : n ≤ 1099511627776) (hbase : base ≤ w0.heap.size)
    {B : Nat} {a0 : World} (hb : Below B a0 w0) (hB : B ≤ base)
    (h : ∀ v' w', w'.ownsRow base e size v' (n + 1) (xs ++ es) → Below B a0 w' → wpList P ops Q rest (a.put o.dst v') w') : wpList P ops Q (o :: rest) a (w0.alloc (.cells es.toArray e)) := by
  subst hg0
  refine wpList_append_own _ hgd s x t ho base e i z size bytes ht hi hz hsize hby hzs hsz v n xs hs (hown.alloc _) ⟨w0.heap.size, 0, none⟩ 1 1 es hx (by omega) (cells_new w0 es e) h1 (by unfold maxLen; omega) ?_ (by simp; omega) ?_
  · calc (n + 1) * bytes ≤ (1099511627776 + 1) * 64 := Nat.mul_le_mul (by omega) hb64
      _ ≤ 140737488355328 := by decide
  · intro v' w' h2 h3 _
    exact h v' w' h2 (below_row (hb.alloc (by omega) _) (hown.alloc _) h3 (by simp; omega) hB)
/-- What a row of the call's own is made of. -/
theorem owns_block {w : World} {base : Nat} {e : TypeId} {size n : Nat} {g c : Nat} {xs : List Value} (h : w.ownsRow base e size (.slice (some ⟨g, 0, none⟩) n c) n xs) :
    ∃ cur : Array Value, w.heap[g]? = some (.cells cur e (0, 0)) ∧ n ≤ c ∧ c ≤ maxLen ∧ cur.size = c * size ∧ cur.toList.take (n * size) = xs ∧ base ≤ g := by
  obtain ⟨_, h2⟩ := h
  rcases h2 with ⟨h2, _⟩ | ⟨g', cap, cur, hv, hg, hh, hnc, hcm, hcs, ht⟩
  · cases h2
  · injection hv with h1 _ h3
    injection h1 with h1
    injection h1 with h1
    subst h1 h3
    exact ⟨cur, hh, hnc, hcm, hcs, ht, hg⟩
theorem owns_of_block {w : World} {base : Nat} {e : TypeId} {size n : Nat} {g c : Nat} {cur : Array Value} {xs : List Value} (hh : w.heap[g]? = some (.cells cur e (0, 0))) (hnc : n ≤ c) (hcm : c ≤ maxLen) (hcs : cur.size = c * size) (ht : cur.toList.take (n * size) = xs) (hl : xs.length = n * size) (hg : base ≤ g) :
    w.ownsRow base e size (.slice (some ⟨g, 0, none⟩) n c) n xs := ⟨hl, .inr ⟨g, c, cur, rfl, hg, hh, hnc, hcm, hcs, ht⟩⟩
theorem owns_nil (w : World) (base : Nat) (e : TypeId) (size : Nat) : w.ownsRow base e size (.slice none 0 0) 0 [] := ⟨by simp, .inl ⟨rfl, rfl⟩⟩

end Go.Proofs.YtmgeknghgngliaaDoor

/-
  Walks over the document's addresses: Parse.
-/
namespace Go.Proofs.YtmgeknghgngliaaDoor
open Go Go.RowKit Go.Sort

theorem Tryd.infoStr : (Tryd.prog.info? 9).map (fun i => (i.zero, i.size, i.bytes)) = some (some (.string ByteArray.empty), 1, 16) := by kernel_rfl
def PInv (l : List UInt8) (k f : Nat) (L : List ByteArray) : Prop :=
  (k ≤ l.length ∧ f ≤ k ∧ pieces 46 l = L.map (·.data.toList) ++ pieces 46 (l.drop f) ∧ (46 : UInt8) ∉ (l.drop f).take (k - f)) ∨ (k = l.length + 1 ∧ pieces 46 l = L.map (·.data.toList))
theorem one_str (x : ByteArray) : ∀ u ∈ [Value.string x], u.oneCell' = true := by intro u hu; simp at hu; subst hu; rfl
theorem pinv_start (l : List UInt8) : PInv l 0 0 [] := Or.inl ⟨Nat.zero_le _, Nat.le_refl _, by simp, by simp⟩
theorem pinv_skip {l : List UInt8} {k f : Nat} {L : List ByteArray} {x : UInt8} (h : PInv l k f L) (hk : l[k]? = some x) (hx : x ≠ 46) : PInv l (k + 1) f L := by
  have hkl := (List.getElem?_eq_some_iff.1 hk).1
  rcases h with ⟨h1, h2, h3, h4⟩ | ⟨h1, _⟩
  · refine Or.inl ⟨by omega, by omega, h3, ?_⟩
    rw [show k + 1 - f = (k - f) + 1 by omega, List.take_add_one]
    have e : (l.drop f)[k - f]? = some x := by rw [List.getElem?_drop, show f + (k - f) = k by omega, hk]
    rw [e]
    intro h
    rcases List.mem_append.1 h with h | h
    · exact h4 h
    · simp at h; exact hx h.symm
  · omega
theorem drop_split {l : List UInt8} {k f : Nat} (hf : f ≤ k) (hk : l[k]? = some 46) : l.drop f = (l.drop f).take (k - f) ++ 46 :: l.drop (k + 1) := by
  have hkl := (List.getElem?_eq_some_iff.1 hk).1
  have e : (l.drop f).drop (k - f) = 46 :: l.drop (k + 1) := by
    rw [List.drop_drop, show f + (k - f) = k by omega, List.drop_eq_getElem_cons hkl]
    congr 1
    exact Option.some.inj ((List.getElem?_eq_getElem hkl).symm.trans hk)
  rw [← e, List.take_append_drop]
theorem pinv_cut {l : List UInt8} {k f : Nat} {L : List ByteArray} {b : ByteArray} (h : PInv l k f L) (hk : l[k]? = some 46) (hb : b.data.toList = (l.drop f).take (k - f)) : PInv l (k + 1) (k + 1) (L ++ [b]) := by
  have hkl := (List.getElem?_eq_some_iff.1 hk).1
  rcases h with ⟨h1, h2, h3, h4⟩ | ⟨h1, _⟩
  · refine Or.inl ⟨by omega, Nat.le_refl _, ?_, by simp⟩
    rw [h3, drop_split h2 hk, pieces_cons _ h4, List.map_append, List.append_assoc]
    simp [hb]
  · omega
theorem pinv_end {l : List UInt8} {f : Nat} {L : List ByteArray} {b : ByteArray} (h : PInv l l.length f L) (hb : b.data.toList = (l.drop f).take (l.length - f)) : PInv l (l.length + 1) (l.length + 1) (L ++ [b]) := by
  rcases h with ⟨h1, h2, h3, h4⟩ | ⟨h1, _⟩
  · refine Or.inr ⟨rfl, ?_⟩
    have e : (l.drop f).take (l.length - f) = l.drop f := List.take_of_length_le (by simp)
    rw [e] at h4 hb
    rw [h3, pieces_none h4, List.map_append]
    simp [hb]
  · omega
theorem pinv_done {l : List UInt8} {f : Nat} {L : List ByteArray} (h : PInv l (l.length + 1) f L) : pieces 46 l = L.map (·.data.toList) := by
  rcases h with ⟨h1, _⟩ | ⟨_, h⟩
  · omega
  · exact h

end Go.Proofs.YtmgeknghgngliaaDoor

/-
  Joined texts: RtText2, AdText, Sp1, OpenS, Sp2, Sp3, SpMath4, Sp6, Kit4.
-/
import Derived.Test.YtmgeknghgngliaaDoorMRoutesNames9
import Derived.Test.YtmgeknghgngliaaDoorMRoutesNames8
import Derived.Test.YtmgeknghgngliaaDoorMRoutesNames5
import Derived.Test.YtmgeknghgngliaaDoorShelf4
import Derived.Deep.RegionHeld3
import Derived.Deep.Slices
import Derived.ChangeSame
import Derived.Lib.LaidU8
import Derived.OpenShut
import Derived.WideShapes
import Derived.ChangeMaps5
import Derived.Laws.OwnMore
import Derived.Deep.DeepCutAuto
import Derived.StillTailTactics
import Derived.Test.YtmgeknghgngliaaDoorShelf2
import Derived.ArgAppend
import Derived.Laws.CopyOwn
/-
  The route that the document reads of a text's words: plain laws; no walk.
-/
namespace Go.Proofs.YtmgeknghgngliaaDoor
open Go Go.RowKit Go.Sort

/-- The document's number of a word: digits, at most eleven. -/
def num08 (w : List UInt8) : Int := if w = [] ∨ w.all isDig = false ∨ 11 < w.length then -1 else (valD 0 w : Nat)
theorem num08_bad {l : List UInt8} {i : Nat} {c : UInt8} (h : l[i]? = some c) (hc : isDig c = false) : num08 l = -1 := by
  unfold num08
  rw [if_pos (Or.inr (Or.inl ?_))]
  cases e : l.all isDig with
  | false => rfl
  | true => have := List.all_eq_true.1 e c (List.mem_of_getElem? h); rw [hc] at this; cases this
theorem num08_long {l : List UInt8} (h : 11 < l.length) : num08 l = -1 := by unfold num08; rw [if_pos (Or.inr (Or.inr h))]
theorem num08_nil : num08 [] = -1 := rfl
theorem num08_good {l : List UInt8} (h0 : l ≠ []) (h1 : l.all isDig = true) (h2 : ¬ 11 < l.length) : num08 l = (valD 0 l : Nat) := by
  unfold num08
  rw [if_neg]
  rintro (h | h | h)
  · exact h0 h
  · rw [h1] at h; cases h
  · exact h2 h
theorem num08_dec {n : Int} (h0 : 0 ≤ n) (h1 : n ≤ 2147483647) : num08 (Lib.decDigits n.toNat) = n := by
  rw [num08_good (decDigits_ne_nil _) (decDigits_all _), decDigits_val]
  · omega
  · intro h
    have := dec_long 9 n.toNat (by omega)
    omega
theorem num08_lt (w : List UInt8) : -1 ≤ num08 w ∧ num08 w < 100000000000 := by
  unfold num08
  split
  · omega
  · rename_i h
    have h1 : w.all isDig = true := by
      cases e : w.all isDig with
      | true => rfl
      | false => exact absurd (Or.inr (Or.inl e)) h
    have h2 : ¬ 11 < w.length := fun e => h (Or.inr (Or.inr e))
    have := valD_lt 11 w (by omega) h1
    omega
/-- What the document reads of the words behind the first five. -/
def scanD : Bool → List (List UInt8) → Int × List UInt8 × Bool → Int × List UInt8 × Bool
  | _, [], st => st
  | _, [x], st => if x = discW then (st.1, st.2.1, true) else st
  | b, x :: y :: t, st => if x = viaW ∧ b = true then scanD false t (adV (parseB y), st.2) else if x = onW then scanD false t (st.1, y, st.2.2) else if x = discW then scanD false (y :: t) (st.1, st.2.1, true) else scanD false (y :: t) st
def restD (w : List (List UInt8)) : Int × List UInt8 × Bool := scanD true w (0, [], false)
theorem scanD_lt : ∀ (b : Bool) (w : List (List UInt8)) (st : Int × List UInt8 × Bool), 0 ≤ st.1 ∧ st.1 < 4294967296 → 0 ≤ (scanD b w st).1 ∧ (scanD b w st).1 < 4294967296
  | _, [], st, h => h
  | _, [x], st, h => by unfold scanD; split <;> exact h
  | b, x :: y :: t, st, h => by
    rw [scanD]
    split
    · exact scanD_lt _ _ _ (adV_lt y)
    · split
      · exact scanD_lt _ _ _ h
      · split
        · exact scanD_lt _ _ _ h
        · exact scanD_lt _ _ _ h
theorem restD_lt (w : List (List UInt8)) : 0 ≤ (restD w).1 ∧ (restD w).1 < 4294967296 := scanD_lt _ _ _ (by simp)
theorem restD_words {r : RtV} (h : r.ok = true) : restD (r.hopW ++ (r.nmW ++ r.dcW)) = (r.ho, r.nm, r.dc) := by
  obtain ⟨_, _, _, _, _, _, h7, h8⟩ := rt_ok h
  have hh := r.hho
  have e := adV_text hh.1 hh.2
  have k1 : onW ≠ viaW := by decide
  have k2 : discW ≠ viaW := by decide
  have k3 : discW ≠ onW := by decide
  unfold RtV.hopW RtV.nmW RtV.dcW
  by_cases h0 : r.ho = 0 <;> by_cases hn : r.nm = [] <;> cases hd : r.dc <;> simp_all [restD, scanD]
/-- The route that the document reads of the words. -/
def candD (w0 w1 w2 w3 w4 : List UInt8) (rest : List (List UInt8)) : RtV where
  a := ppA w0
  m := ppN w0
  fr := fromI w1
  di := num08 w2
  me := num08 w3
  ta := num08 w4
  nm := (restD rest).2.1
  ho := (restD rest).1
  dc := (restD rest).2.2
  ha := ppA_lt w0
  hm := by have := ppN_range w0; omega
  hfr := by have := fromI_lt w1; omega
  hdi := by have := num08_lt w2; omega
  hme := by have := num08_lt w3; omega
  hta := by have := num08_lt w4; omega
  hho := restD_lt rest
theorem candD_words {r : RtV} (h : r.ok = true) : candD (prefT r.a r.m) (fromW r.fr) (Lib.decDigits r.di.toNat) (Lib.decDigits r.me.toNat) (Lib.decDigits r.ta.toNat) (r.hopW ++ (r.nmW ++ r.dcW)) = r := by
  obtain ⟨h1, h2, h3, h4, h5, h6, h7, h8⟩ := rt_ok h
  have a1 := ppO_T r.ha.1 r.ha.2 h1
  have a2 := restD_words h
  refine rt_ext a1.1 a1.2.1 (fromI_W h2 h3) (num08_dec h4.1 h4.2) (num08_dec h5.1 h5.2) (num08_dec h6.1 h6.2) ?_ ?_ ?_
  · show (restD _).2.1 = _; rw [a2]
  · show (restD _).1 = _; rw [a2]
  · show (restD _).2.2 = _; rw [a2]
theorem roO_candD {l w0 w1 w2 w3 w4 : List UInt8} {rest : List (List UInt8)} (hp : pieces 32 l = w0 :: w1 :: w2 :: w3 :: w4 :: rest) :
    roO l = if ppE w0 = 0 ∧ (candD w0 w1 w2 w3 w4 rest).ok = true ∧ (candD w0 w1 w2 w3 w4 rest).text = l then some (candD w0 w1 w2 w3 w4 rest) else none := by
  split
  · rename_i h
    have e := roO_text h.2.1
    rw [h.2.2] at e
    exact e
  · rename_i h
    refine roO_no fun r hr ht => h ?_
    have w := rt_words hr
    rw [ht, hp] at w
    unfold RtV.words at w
    simp only [List.cons_append, List.nil_append] at w
    injection w with w0 w
    injection w with w1 w
    injection w with w2 w
    injection w with w3 w
    injection w with w4 w
    subst w0 w1 w2 w3 w4 w
    rw [candD_words hr]
    exact ⟨rt_five hr, hr, ht⟩
end Go.Proofs.YtmgeknghgngliaaDoor

/-
  The text of an advert, and the advert of a text: plain laws; no walk.
-/
namespace Go.Proofs.YtmgeknghgngliaaDoor
open Go Go.RowKit Go.Sort

/-- A list of numbers below 2^32. -/
def u32s (l : List Int) : Prop := ∀ x ∈ l, 0 ≤ x ∧ x < 4294967296
/-- An advert. -/
structure AvV where
  a : Int
  m : Int
  ss : Int
  pf : Int
  me : Int
  ho : Int
  pe : Int
  id : Int
  ex : Bool
  og : Int
  pa : List Int
  co : List Int
  cl : List Int
  ha : 0 ≤ a ∧ a < 4294967296
  hm : -9223372036854775808 ≤ m ∧ m ≤ 9223372036854775807
  hss : -9223372036854775808 ≤ ss ∧ ss ≤ 9223372036854775807
  hpf : -9223372036854775808 ≤ pf ∧ pf ≤ 9223372036854775807
  hme : -9223372036854775808 ≤ me ∧ me ≤ 9223372036854775807
  hho : 0 ≤ ho ∧ ho < 4294967296
  hpe : 0 ≤ pe ∧ pe < 4294967296
  hid : 0 ≤ id ∧ id < 4294967296
  hog : 0 ≤ og ∧ og < 4294967296
  hpa : u32s pa
  hco : u32s co
  hcl : u32s cl
theorem u32s_nil : u32s [] := fun _ h => by cases h
instance : Inhabited AvV := ⟨⟨0, 0, 0, 0, 0, 0, 0, 0, false, 0, [], [], [], by omega, by omega, by omega, by omega, by omega, by omega, by omega, by omega, by omega, u32s_nil, u32s_nil, u32s_nil⟩⟩
def prefW : List UInt8 := [112, 114, 101, 102]
def metrW : List UInt8 := [109, 101, 116, 114, 105, 99]
def peerW : List UInt8 := [112, 101, 101, 114]
def idW : List UInt8 := [105, 100]
def extW : List UInt8 := [101, 120, 116, 101, 114, 110, 97, 108]
def intW : List UInt8 := [105, 110, 116, 101, 114, 110, 97, 108]
def origW : List UInt8 := [111, 114, 105, 103, 105, 110]
def sessW : List UInt8 := [115, 101, 115, 115, 105, 111, 110]
def pathW : List UInt8 := [112, 97, 116, 104]
def commW : List UInt8 := [99, 111, 109, 109]
def clusW : List UInt8 := [99, 108, 117, 115, 116, 101, 114, 115]
def oneW : List UInt8 := [45, 49]
def sideT (b : Bool) : List UInt8 := if b then extW else intW
def sessT (n : Int) : List UInt8 := if n = -1 then oneW else Lib.decDigits n.toNat
def decT (n : Int) : List UInt8 := Lib.decDigits n.toNat
def addrT (n : Int) : List UInt8 := (textA n.toNat).data.toList
/-- May the advert be written? -/
def AvV.ok (r : AvV) : Bool := decide (chk r.a r.m = 0) && fineB r.pf && fineB r.me && (decide (r.ss = -1) || fineB r.ss)
def AvV.head (r : AvV) : List (List UInt8) := [prefT r.a r.m, viaW, addrT r.ho, prefW, decT r.pf, metrW, decT r.me, peerW, addrT r.pe, idW, addrT r.id, sideT r.ex, origW, addrT r.og, sessW, sessT r.ss, pathW]
def AvV.tail (r : AvV) : List (List UInt8) := r.pa.map decT ++ commW :: (r.co.map decT ++ clusW :: r.cl.map addrT)
def AvV.words (r : AvV) : List (List UInt8) := r.head ++ r.tail
def AvV.text (r : AvV) : List UInt8 := Lib.join r.words [32]
theorem av_ok {r : AvV} (h : r.ok = true) : chk r.a r.m = 0 ∧ (0 ≤ r.pf ∧ r.pf ≤ 2147483647) ∧ (0 ≤ r.me ∧ r.me ≤ 2147483647) ∧ (r.ss = -1 ∨ (0 ≤ r.ss ∧ r.ss ≤ 2147483647)) := by
  simp only [AvV.ok, Bool.and_eq_true, decide_eq_true_eq, fine_iff, Bool.or_eq_true] at h
  obtain ⟨⟨⟨h1, h2⟩, h3⟩, h4⟩ := h
  exact ⟨h1, h2, h3, h4⟩
theorem decT_no (n : Int) : (32 : UInt8) ∉ decT n := not_dec (by decide) _
theorem addrT_no (n : Int) : (32 : UInt8) ∉ addrT n := not_text (by decide) (by decide) _
theorem sideT_no (b : Bool) : (32 : UInt8) ∉ sideT b := by cases b <;> decide
theorem sessT_no (n : Int) : (32 : UInt8) ∉ sessT n := by
  unfold sessT
  split
  · decide
  · exact not_dec (by decide) _
theorem av_words_no {r : AvV} (h : r.ok = true) : ∀ x ∈ r.words, (32 : UInt8) ∉ x := by
  obtain ⟨h1, h2, h3, h4⟩ := av_ok h
  have k1 := chk_ok h1
  intro x hx
  simp only [AvV.words, AvV.head, AvV.tail, List.mem_append, List.mem_cons, List.not_mem_nil, or_false, List.mem_map] at hx
  rcases hx with (rfl | rfl | rfl | rfl | rfl | rfl | rfl | rfl | rfl | rfl | rfl | rfl | rfl | rfl | rfl | rfl | rfl) | ⟨n, _, rfl⟩ | rfl | ⟨n, _, rfl⟩ | rfl | ⟨n, _, rfl⟩
  all_goals first | exact prefT_no k1.1 | exact addrT_no _ | exact decT_no _ | exact sideT_no _ | exact sessT_no _ | decide
theorem av_words {r : AvV} (h : r.ok = true) : pieces 32 r.text = r.words := pieces_joinL 32 _ (by simp [AvV.words, AvV.head]) (av_words_no h)
theorem av_ext {r q : AvV} (h0 : r.a = q.a) (h1 : r.m = q.m) (h2 : r.ss = q.ss) (h3 : r.pf = q.pf) (h4 : r.me = q.me) (h5 : r.ho = q.ho) (h6 : r.pe = q.pe) (h7 : r.id = q.id) (h8 : r.ex = q.ex) (h9 : r.og = q.og) (h10 : r.pa = q.pa) (h11 : r.co = q.co) (h12 : r.cl = q.cl) : r = q := by
  cases r; cases q; simp_all
theorem decT_inj {m n : Int} (h0 : 0 ≤ m) (h1 : 0 ≤ n) (h : decT m = decT n) : m = n := by
  have := decDigits_inj h
  omega
theorem addrT_inj {m n : Int} (h0 : 0 ≤ m ∧ m < 4294967296) (h1 : 0 ≤ n ∧ n < 4294967296) (h : addrT m = addrT n) : m = n := by
  have e1 := adV_text h0.1 h0.2
  have e2 := adV_text h1.1 h1.2
  unfold addrT at h
  rw [h, e2] at e1
  exact e1.symm
/-- A number that a word is read to: any, if it is the text of none. -/
def NumRel (w : List UInt8) (x : Int) : Prop := ∀ n : Int, 0 ≤ n → n < 4294967296 → w = decT n → x = n
def AddrRel (w : List UInt8) (x : Int) : Prop := ∀ n : Int, 0 ≤ n → n < 4294967296 → w = addrT n → x = n
/-- The numbers that words are read to. -/
def ListRel (R : List UInt8 → Int → Prop) (ws : List (List UInt8)) (l : List Int) : Prop := ws.length = l.length ∧ ∀ (i : Nat) (w : List UInt8) (x : Int), ws[i]? = some w → l[i]? = some x → R w x
theorem listRel_nil (R) : ListRel R [] [] := ⟨rfl, fun i w x h => by simp at h⟩
theorem listRel_snoc {R} {ws : List (List UInt8)} {l : List Int} {w : List UInt8} {x : Int} (h : ListRel R ws l) (hx : R w x) : ListRel R (ws ++ [w]) (l ++ [x]) := by
  refine ⟨by simp [h.1], fun i w' x' hw hx' => ?_⟩
  by_cases hi : i < ws.length
  · rw [List.getElem?_append_left hi] at hw
    rw [List.getElem?_append_left (by have := h.1; omega)] at hx'
    exact h.2 i w' x' hw hx'
  · rw [List.getElem?_append_right (by omega)] at hw
    rw [List.getElem?_append_right (by have := h.1; omega)] at hx'
    have e1 : i - ws.length = 0 := by
      have := (List.getElem?_eq_some_iff.1 hw).1
      simp at this
      omega
    have e2 : i - l.length = 0 := by have := h.1; omega
    rw [e1] at hw
    rw [e2] at hx'
    simp at hw hx'
    rw [← hw, ← hx']
    exact hx
theorem listRel_dec {l q : List Int} (h : ListRel NumRel (q.map decT) l) (hq : u32s q) : l = q := by
  apply List.ext_getElem?
  intro i
  have hl := h.1
  rw [List.length_map] at hl
  by_cases hi : i < q.length
  · have a := List.getElem?_eq_getElem hi
    have b := List.getElem?_eq_getElem (l := l) (i := i) (by omega)
    have hm := hq _ (List.mem_of_getElem? a)
    have := h.2 i (decT q[i]) l[i] (by rw [List.getElem?_map, a]; rfl) b _ hm.1 hm.2 rfl
    rw [a, b, this]
  · rw [List.getElem?_eq_none (by omega), List.getElem?_eq_none (by omega)]
theorem listRel_addr {l q : List Int} (h : ListRel AddrRel (q.map addrT) l) (hq : u32s q) : l = q := by
  apply List.ext_getElem?
  intro i
  have hl := h.1
  rw [List.length_map] at hl
  by_cases hi : i < q.length
  · have a := List.getElem?_eq_getElem hi
    have b := List.getElem?_eq_getElem (l := l) (i := i) (by omega)
    have hm := hq _ (List.mem_of_getElem? a)
    have := h.2 i (addrT q[i]) l[i] (by rw [List.getElem?_map, a]; rfl) b _ hm.1 hm.2 rfl
    rw [a, b, this]
  · rw [List.getElem?_eq_none (by omega), List.getElem?_eq_none (by omega)]
theorem addrRel_adV (w : List UInt8) : AddrRel w (adV (parseB w)) := fun n h0 h1 e => by rw [e]; exact adV_text h0 h1
theorem numRel_uint {w : List UInt8} {x : Int} (h : ∀ n : Nat, Lib.parseUintB 32 w = .ok n → x = n) : NumRel w x := fun n h0 h1 e => by
  have := h n.toNat (by rw [e]; exact uint32_digits (by omega))
  omega
theorem numRel_num08 (w : List UInt8) : NumRel w (num08 w % 4294967296) := fun n h0 h1 e => by
  have hv : num08 w = n := by
    rw [e]
    unfold decT
    rw [num08_good (decDigits_ne_nil _) (decDigits_all _), decDigits_val]
    · omega
    · intro h
      have := dec_long 10 n.toNat (by omega)
      omega
  rw [hv]
  omega
end Go.Proofs.YtmgeknghgngliaaDoor

/-
  Walks over the layer of spans: the closure of Form, the sort of spans.
-/
namespace Go.Proofs.YtmgeknghgngliaaDoor
open Go Go.RowKit Go.Lib Go.Sort

def SpanV.enc (s : SpanV) : List Value := [.int .u32 s.lo, .int .u32 s.hi]
theorem span_len (s : SpanV) : s.enc.length = 2 := rfl
def cmpS (x y : SpanV) : Int := firstNZ [cmpI x.lo y.lo, cmpI x.hi y.hi]

set_option maxHeartbeats 1000000 in
theorem formClos_any (x y : SpanV) (w : World) :
    Calls Tryd.prog 70 #[.agg #[.int .u32 x.lo, .int .u32 x.hi], .agg #[.int .u32 y.lo, .int .u32 y.hi]] w fun e w' => e = .returned (.int .i64 (cmpS x y)) ∧ ∃ q os', w' = grow (w.drewN q) os' := by
  have hBX : ∃ os, (w.alloc (.cells #[.int .u32 x.lo, .int .u32 x.hi] 41)).alloc (.cells #[.int .u32 y.lo, .int .u32 y.hi] 41) = grow w os := ⟨_, by rw [alloc_eq_grow, alloc_eq_grow, grow_grow]⟩
  have HB := Lib.hid hBX
  clear hBX
  go_enter Tryd.func70, Tryd.ntmps70
  go_wp2
  obtain ⟨k0, k1⟩ := blk2 w (.cells #[.int .u32 x.lo, .int .u32 x.hi] 41) (.cells #[.int .u32 y.lo, .int .u32 y.hi] 41)
  obtain ⟨c0, c1, _, _⟩ := two_cells k0
  obtain ⟨c2, c3, _, _⟩ := two_cells k1
  have hsz := lt_of_block k1
  clear k0 k1
  obtain ⟨os0, hos⟩ := HB.out
  have HOS := Lib.hid hos
  clear hos HB
  generalize (w.alloc (.cells #[.int .u32 x.lo, .int .u32 x.hi] 41)).alloc (.cells #[.int .u32 y.lo, .int .u32 y.hi] 41) = W at *
  go_region_held3 (fun w' => w'.cell? ⟨w.heap.size, 0, none⟩ = some (.int .u32 x.lo) ∧ w'.cell? ⟨w.heap.size, 1, none⟩ = some (.int .u32 x.hi) ∧ w'.cell? ⟨w.heap.size + 1, 0, none⟩ = some (.int .u32 y.lo) ∧ w'.cell? ⟨w.heap.size + 1, 1, none⟩ = some (.int .u32 y.hi)) (go_keep)
    (first | (go_at_call 71; refine (cmpU32_any _ _ _).mono ?_; rintro e w' ⟨rfl, rfl⟩) | (go_at_call 60; refine (cmpOr_any [cmpI x.lo y.lo, cmpI x.hi y.hi] _ _ (Rd.of_blk (cs := #[.int .i64 (cmpI x.lo y.lo), .int .i64 (cmpI x.hi y.hi)]) (t := 3) (heap_drew (heap_alloc_new _ _)) (Nat.le_refl _) rfl) (by simp)).mono ?_; rintro e w' ⟨rfl, rfl⟩))
  all_goals go_wp2
  go_ret
  refine ⟨rfl, 1, os0 ++ #[.cells #[.int .i64 (cmpI x.lo y.lo), .int .i64 (cmpI x.hi y.hi)] 3], ?_⟩
  rw [HOS.out, alloc_eq_grow, grow_grow]
  rfl

end Go.Proofs.YtmgeknghgngliaaDoor

/-
  Arguments opened to cells: structs of any depth, slices of structs of any length; no program in sight.
-/
namespace Go.Proofs.YtmgeknghgngliaaDoor
open Go Go.RowKit Go.ChangeShapes Go.WideShapes Go.Deep

theorem list_told {α : Type} {Q : Nat → α → Prop} : ∀ n, (∀ i, i < n → ∃ r, Q i r) → ∃ L : List α, L.length = n ∧ ∀ i x, L[i]? = some x → Q i x
  | 0, _ => ⟨[], rfl, fun i x h => by simp at h⟩
  | n + 1, h => by
    obtain ⟨L, hl, hq⟩ := list_told n (fun i hi => h i (by omega))
    obtain ⟨r, hr⟩ := h n (by omega)
    refine ⟨L ++ [r], by simp [hl], fun i x hx => ?_⟩
    by_cases hi : i < L.length
    · rw [List.getElem?_append_left hi] at hx; exact hq i x hx
    · rw [List.getElem?_append_right (by omega)] at hx
      have : i - L.length = 0 := by
        have := (List.getElem?_eq_some_iff.1 hx).1
        simp at this; omega
      rw [this] at hx
      simp at hx
      subst hx
      have : i = n := by omega
      rw [this]; exact hr
theorem flat_inv {α : Type} (enc : α → List Value) (k : Nat) (hk : ∀ x, (enc x).length = k) (L : List α) (j : Nat) (u : Value) (h : (L.flatMap enc)[j]? = some u) :
    ∃ (i jj : Nat) (x : α), j = i * k + jj ∧ jj < k ∧ L[i]? = some x ∧ (enc x)[jj]? = some u := by
  have hj := (List.getElem?_eq_some_iff.1 h).1
  rw [flat_len enc k hk] at hj
  have hk0 : 0 < k := by
    rcases Nat.eq_zero_or_pos k with h0 | h0
    · subst h0; simp at hj
    · exact h0
  have hd : j / k < L.length := Nat.div_lt_of_lt_mul (by rw [Nat.mul_comm]; exact hj)
  have hm := Nat.mod_lt j hk0
  have hdm : j = j / k * k + j % k := by rw [Nat.mul_comm]; exact (Nat.div_add_mod j k).symm
  have hx := List.getElem?_eq_getElem hd
  have hu : (enc L[j / k])[j % k]? = some ((enc L[j / k])[j % k]'(by rw [hk]; exact hm)) := List.getElem?_eq_getElem _
  have hg := flat_get enc k hk L _ _ _ _ hx hu
  rw [← hdm, h] at hg
  exact ⟨j / k, j % k, _, hdm, hm, hx, hu.trans hg.symm⟩

section
variable {H : Type} {enc : TypeId × Value → H} {P : Program} {w : World} {base : Nat} {spare : Nat → Bool} {held : Bool}
theorem sub_at {t : TypeId} {fs : Array Field} {n : Nat} {cs : List Value} {x : DataW H × List MemPlace} (ht : P.underlying t = some (.struct fs)) (h : DataW.trod enc P w base spare held n t cs = some x) :
    cs.length = P.cellsOf t ∧ ∃ m, ∀ (j : Nat) (f : Field) (off : Nat) (ty : TypeId) (k : Nat), fs[j]? = some f → f.offset = off → f.type = ty → P.cellsOf ty = k → ∃ y, DataW.trod enc P w base spare held m ty ((cs.drop off).take k) = some y := by
  obtain ⟨xs, m, _, _, hl, hlen, hf⟩ := DataW.trod_struct ht h
  refine ⟨hl, m, fun j f off ty k hj ho hty hk => ?_⟩
  have h1 := hf j f hj
  have hjl : j < xs.length := by rw [hlen]; exact (Array.getElem?_eq_some_iff.1 hj).1
  subst ho hty hk
  exact ⟨_, h1.trans (List.getElem?_eq_getElem hjl)⟩
/-- A struct as a parameter. -/
theorem open_agg {r : Reach} {b0 : Nat} {t : TypeId} {fs : Array Field} {v : Value} {d : DataW H} {p : List MemPlace} (hs : P.underlying t = some (.struct fs)) (hv : Value.okWide P w r b0 t v) (h : DataW.Trod enc P w base spare held t v d p) :
    ∃ (cs : List Value) (n : Nat), v = .agg cs.toArray ∧ DataW.trod enc P w base spare held n t cs = some (d, p) := by
  obtain ⟨cs, rfl, _⟩ := okWide_struct hs hv
  obtain ⟨n, hf⟩ := h
  exact ⟨cs.toList, n, by simp, hf⟩
/-- A slice as a parameter. -/
theorem open_sl {r : Reach} {b0 : Nat} {t e : TypeId} {v : Value} {d : DataW H} {p : List MemPlace} (hs : P.underlying t = some (.slice e)) (hv : Value.okWide P w r b0 t v) (h : DataW.Trod enc P w base spare held t v d p) :
    ∃ n, DataW.trod enc P w base spare held n t [v] = some (d, p) := by
  obtain ⟨a, len, cap, rfl⟩ := okWide_slice hs hv
  exact h
/-- A slice whose elements' cells are told by one list each. -/
theorem open_rd {α : Type} {encV : α → List Value} {k : Nat} (hk : ∀ x, (encV x).length = k) (hk0 : 0 < k) {t e : TypeId} {n : Nat} {cs : List Value} {x : DataW H × List MemPlace} (ht : P.underlying t = some (.slice e)) (hC : P.cellsOf e = k)
    (hel : ∀ n cs y, DataW.trod enc P w base spare held n e cs = some y → ∃ r, cs = encV r) (h : DataW.trod enc P w base spare held n t cs = some x) :
    ∃ (v : Value) (L : List α), cs = [v] ∧ Rd w w.heap.size k v L.length (L.flatMap encV) ∧ L.length ≤ maxLen := by
  rcases open_slice ht h with ⟨h0, _⟩ | ⟨a, len, cap, m, n', D, Pl, hcs, _, hl, hm, hmm, _, hi⟩
  · exact ⟨_, [], h0, ⟨none, 0, rfl, by simp, by simp, fun h => absurd h (by simp)⟩, by simp⟩
  · have hlm : len ≤ m := by rw [hmm]; split <;> omega
    obtain ⟨L, hL, hq⟩ := list_told (Q := fun i r => w.cells? base (a.add (i * k)) k = some (encV r)) len (fun i hi' => by
      obtain ⟨cs', hc, ht'⟩ := hi i (by omega)
      obtain ⟨r, hr⟩ := hel _ _ _ ht'
      rw [hC] at hc
      exact ⟨r, by rw [hc, hr]⟩)
    refine ⟨_, L, hcs, ⟨some a, cap, by rw [hL], by omega, flat_len encV k hk L, fun hpos => ?_⟩, by omega⟩
    obtain ⟨b, off, sp⟩ := a
    have hz : ∃ u, w.cell? ⟨b, off, sp⟩ = some u := by
      obtain ⟨r, hr⟩ : ∃ r, L[0]? = some r := ⟨_, List.getElem?_eq_getElem hpos⟩
      obtain ⟨_, _, hat⟩ := World.cells?_some (hq 0 r hr)
      have h1 := hat 0 hk0
      have h2 : (encV r)[0]? = some ((encV r)[0]'(by rw [hk]; exact hk0)) := List.getElem?_eq_getElem _
      rw [h2] at h1
      refine ⟨_, Eq.trans ?_ h1⟩
      simp [Addr.add]
    obtain ⟨u0, hu0⟩ := hz
    obtain rfl := Go.Proofs.cell_spot hu0
    refine ⟨b, off, rfl, ?_, fun j u hu => ?_⟩
    · rcases Nat.lt_or_ge b w.heap.size with h | h
      · exact h
      · have hn : w.heap[b]? = none := by simp [h]
        simp [World.cell?, hn] at hu0
    · obtain ⟨i, jj, r, hj, hjj, hr, hu'⟩ := flat_inv encV k hk L j u hu
      obtain ⟨_, _, hat⟩ := World.cells?_some (hq i r hr)
      have h1 := hat jj hjj
      rw [hu'] at h1
      have e : (Addr.add ⟨b, off, none⟩ (i * k)).add jj = ⟨b, off + j, none⟩ := by
        rw [hj]; simp only [Addr.add]
        split <;> split <;> simp_all <;> omega
      rw [← e]; exact h1
end

end Go.Proofs.YtmgeknghgngliaaDoor

/-
  Rows of structs and the shelf's sort: cells told both ways; the sort of spans.
-/
namespace Go.Proofs.YtmgeknghgngliaaDoor
open Go Go.RowKit Go.Lib Go.Sort

section
variable {α : Type} [Inhabited α] {enc : α → List Value} {k : Nat}
theorem flatK_at (hk : ∀ x, (enc x).length = k) {L : List α} {j : Nat} {u : Value} (h : (L.flatMap enc)[j]? = some u) : (flatK enc k L.toArray)[j]! = u := by
  have hj := (List.getElem?_eq_some_iff.1 h).1
  rw [flat_len enc k hk] at hj
  rw [get_flatK _ _ _ _ (by simpa using hj)]
  obtain ⟨i, jj, x, rfl, hjj, hx, hu⟩ := flat_inv enc k hk L j u h
  have e1 : (i * k + jj) / k = i := by
    rw [Nat.mul_comm, Nat.mul_add_div (by omega), Nat.div_eq_of_lt hjj, Nat.add_zero]
  have e2 : (i * k + jj) % k = jj := by
    rw [Nat.mul_comm, Nat.mul_add_mod, Nat.mod_eq_of_lt hjj]
  rw [e1, e2]
  have hi := (List.getElem?_eq_some_iff.1 hx)
  have e3 : L.toArray[i]! = x := by
    have := get_bang hi.1
    rw [hx] at this
    injection this with this
    rw [this]
    simp
  rw [e3]
  have := get_bang (List.getElem?_eq_some_iff.1 hu).1
  rw [hu] at this
  injection this with this
  exact this.symm
theorem holdsK_of (hk : ∀ x, (enc x).length = k) {L : List α} {w : World} {g off : Nat} (h : ∀ j u, (L.flatMap enc)[j]? = some u → w.cell? ⟨g, off + j, none⟩ = some u) (hf : ∀ j, w.frozen? ⟨g, j, none⟩ = false) : HoldsK enc k w g off L.toArray := by
  intro j hj
  rw [size_flatK] at hj
  have hj' : j < (L.flatMap enc).length := by rw [flat_len enc k hk]; simpa using hj
  refine ⟨?_, hf _⟩
  rw [flatK_at hk (List.getElem?_eq_getElem hj')]
  exact h j _ (List.getElem?_eq_getElem hj')
theorem cells_of_holdsK (hk : ∀ x, (enc x).length = k) {d : Array α} {w : World} {g off : Nat} (h : HoldsK enc k w g off d) : ∀ j u, (d.toList.flatMap enc)[j]? = some u → w.cell? ⟨g, off + j, none⟩ = some u := by
  intro j u hu
  have hj := (List.getElem?_eq_some_iff.1 hu).1
  rw [flat_len enc k hk] at hj
  have := (h j (by rw [size_flatK]; simpa using hj)).1
  have e := flatK_at hk (L := d.toList) hu
  rw [show d.toList.toArray = d by simp] at e
  rw [e] at this
  exact this
theorem below_sortWorldK {w : World} {B g off m : Nat} {d : Array α} {os : Array Obj} (hg : B ≤ g) (hB : B ≤ w.heap.size) : RowKit.Below B w (sortWorldK enc k w g off m d os) := by
  refine ⟨rfl, rfl, rfl, ?_, fun i hi => ?_⟩
  · simp [sortWorldK, grow, putRowK, putRow, mapBlock]
  · have hne : i ≠ g := by omega
    simp only [sortWorldK, grow, putRowK, putRow, mapBlock]
    rw [Array.getElem?_append_left (by simp; omega), Array.getElem?_modify, if_neg (Ne.symm hne)]
    rfl
end

theorem ltS (x y : SpanV) : ltOf cmpS x y = decide (x.lo < y.lo ∨ (x.lo = y.lo ∧ x.hi < y.hi)) := by
  unfold ltOf cmpS
  rcases Int.lt_trichotomy x.lo y.lo with h | h | h
  · rw [cmpI_lt h]
    simp [firstNZ, h]
  · rw [h, cmpI_eq]
    rcases Int.lt_trichotomy x.hi y.hi with h2 | h2 | h2
    · rw [cmpI_lt h2]; simp [firstNZ, h2]
    · rw [h2, cmpI_eq]; simp [firstNZ]
    · rw [cmpI_gt h2]; simp [firstNZ]; omega
  · rw [cmpI_gt h]
    simp [firstNZ]; omega
theorem swoS : SWO (ltOf cmpS) where
  irrefl x := by rw [ltS]; simp
  trans x y z h1 h2 := by rw [ltS] at *; simp at *; omega
  ntrans x y z h1 h2 := by rw [ltS] at *; simp at *; omega

def scells (L : List SpanV) : List Value := L.flatMap SpanV.enc
theorem scell {L : List SpanV} {k i : Nat} {x : SpanV} {v : Value} (hr : L[k]? = some x) (hv : x.enc[i]? = some v) : (scells L)[k * 2 + i]? = some v := flat_get SpanV.enc 2 span_len L k i x v hr hv
def SortPost (L : List SpanV) (v : Value) (base : Nat) (w : World) (e : Ending) (w' : World) : Prop :=
  e = .returned (.tuple #[]) ∧ ∃ L' : List SpanV, L'.Perm L ∧ L'.Pairwise (fun x y => x.lo ≤ y.lo) ∧ Rd w' w'.heap.size 2 v L'.length (scells L') ∧ ∀ B, B ≤ base → B ≤ w.heap.size → RowKit.Below B w w'

theorem sortSpan_any (L : List SpanV) (v : Value) (base : Nat) (w : World) (hown : w.ownsRow base 41 2 v L.length (scells L)) (hlen : L.length < 4611686018427387904) :
    Calls Tryd.prog 69 #[v, .func (.func 70) #[] #[]] w fun e w' => SortPost L v base w e w' := by
  rcases Nat.eq_zero_or_pos L.length with h0 | h0
  · obtain rfl : L = [] := List.eq_nil_of_length_eq_zero h0
    obtain ⟨A, c, rfl, _⟩ := owns_form hown
    refine (AnyF.slices_SortFunc_none Tryd.sortSpan A c (.func (.func 70) #[] #[]) w).mono fun e w' ⟨he, hw⟩ => ⟨he, [], List.Perm.refl _, List.Pairwise.nil, ?_, fun B _ _ => ?_⟩
    · subst hw; exact Rd.of_own hown
    · subst hw; exact RowKit.Below.refl _ _
  · obtain ⟨A, c, rfl, hA⟩ := owns_form hown
    obtain ⟨g, rfl⟩ := hA h0
    have hg := hown.lt g rfl
    have hH : HoldsK SpanV.enc 2 w g 0 L.toArray := holdsK_of span_len (fun j u hu => by
      have := hown.cells (g := g) rfl j u hu
      have e : (⟨g, 0, none⟩ : Addr).add j = ⟨g, 0 + j, none⟩ := by simp [Addr.add]; omega
      rw [← e]; exact this) (fun j => hown.frozenAt j)
    have hcon := AnyQ.slices_SortFunc Tryd.sortSpan 2 Tryd.isAgg41 Tryd.sizeOf41 SpanV.enc span_len (fun x v hv => by simp [SpanV.enc] at hv; rcases hv with rfl | rfl <;> rfl) cmpS swoS 70 #[] g 0 c L.toArray w (enters_of Tryd.func70 (by kernel_rfl) rfl) (fun _ _ _ _ x y => formClos_any x y _) hH hg.2 (by simpa using hlen)
    rw [List.size_toArray] at hcon
    change Calls Tryd.prog 69 _ _ _ at hcon
    refine hcon.mono ?_
    rintro e w' ⟨he, d', n, os, hp, hs, hw⟩
    have hsz : d'.size = L.length := by simpa using hp.1
    subst hw
    have hK := holdsK_sortWorldK_c (enc := SpanV.enc) (k := 2) (w := w) (blk := g) (off := 0) L.toArray d' n os hH hg.2 (by simpa using hsz)
    refine ⟨he, d'.toList, ?_, ?_, ⟨_, c, ?_, ?_, ?_, fun _ => ⟨g, 0, rfl, ?_, fun j u hu => ?_⟩⟩, fun B hB hB2 => below_sortWorldK (by omega) hB2⟩
    · have := hp.2.2
      rw [← hsz] at this
      have e1 : (d'.extract 0 d'.size).toList = d'.toList := by simp
      have e2 : (L.toArray.extract 0 d'.size).toList = L := by rw [hsz]; simp
      rw [e1, e2] at this
      exact this
    · rw [List.pairwise_iff_getElem]
      intro i j hi hj hij
      have h1 := hs i j (Nat.zero_le _) hij (by simpa [hsz] using hj)
      rw [ltS] at h1
      have e1 : d'[i]! = d'.toList[i] := by
        have : i < d'.size := by simpa using hi
        simp [this]
      have e2 : d'[j]! = d'.toList[j] := by
        have : j < d'.size := by simpa using hj
        simp [this]
      rw [e1, e2] at h1
      simp at h1
      simp
      omega
    · have e1 : d'.toList.length = L.length := by simpa using hsz
      rw [e1]
    · have := hown
      obtain ⟨_, hq⟩ := this
      rcases hq with ⟨h1, _⟩ | ⟨g', cap, cur, h1, _, _, h2, _⟩
      · cases h1
      · injection h1 with _ _ h1
        rw [Array.length_toList, hsz, h1]
        exact h2
    · exact flat_len SpanV.enc 2 span_len _
    · have := size_sortWorldK_c (enc := SpanV.enc) (k := 2) (w := w) (blk := g) (off := 0) n d' os
      omega
    · exact cells_of_holdsK span_len hK j u hu

end Go.Proofs.YtmgeknghgngliaaDoor

/-
  The walk of spans.Form.
-/
namespace Go.Proofs.YtmgeknghgngliaaDoor
open Go Go.RowKit Go.Lib Go.Sort

theorem Tryd.infoSpan : (Tryd.prog.info? 41).map (fun i => (i.zero, i.size, i.bytes)) = some (some (.agg #[.int .u32 0, .int .u32 0]), 2, 8) := by kernel_rfl
theorem below_drew1 {B : Nat} {a w : World} (h : Below B a w) : Below B a w.drew := ⟨h.os, h.tape, h.output, h.size, h.block⟩
/-- A new list of spans is handed back; nothing that was there has turned. -/
def SetRes (R : List SpanV) (w : World) (e : Ending) (w' : World) : Prop :=
  ∃ v, e = .returned v ∧ w'.ownsRow w.heap.size 41 2 v R.length (scells R) ∧ Below w.heap.size w w'
theorem scells_one (L : List SpanV) : ∀ u ∈ scells L, u.oneCell' = true := by
  intro u hu
  obtain ⟨r, _, hr⟩ := List.mem_flatMap.1 hu
  simp only [SpanV.enc, List.mem_cons, List.not_mem_nil, or_false] at hr
  rcases hr with rfl | rfl <;> rfl
theorem enc_one (s : SpanV) : ∀ u ∈ s.enc, u.oneCell' = true := by
  intro u hu
  simp only [SpanV.enc, List.mem_cons, List.not_mem_nil, or_false] at hu
  rcases hu with rfl | rfl <;> rfl
theorem scells_len (L : List SpanV) : (scells L).length = L.length * 2 := flat_len SpanV.enc 2 span_len L
theorem scells_append (A B : List SpanV) : scells (A ++ B) = scells A ++ scells B := by simp [scells]
theorem scells_snoc (A : List SpanV) (s : SpanV) : scells (A ++ [s]) = scells A ++ s.enc := by simp [scells]
theorem filter_succ {L : List SpanV} {j : Nat} {s : SpanV} (h : L[j]? = some s) : (L.take (j + 1)).filter okS = (L.take j).filter okS ++ (if s.lo ≤ s.hi then [s] else []) := by
  rw [List.take_add_one, h, List.filter_append]
  congr 1
  by_cases hs : s.lo ≤ s.hi <;> simp [okS, hs]
theorem filter_take_len (L : List SpanV) (j : Nat) : ((L.take j).filter okS).length ≤ j := by
  have := List.length_filter_le okS (L.take j)
  simp at this; omega
theorem scells_set {A : List SpanV} {t y : SpanV} (h : y.lo = t.lo) : (scells (A ++ [t])).set (A.length * 2 + 1) (.int .u32 y.hi) = scells (A ++ [y]) := by
  rw [scells_snoc, scells_snoc, List.set_append_right _ _ (by rw [scells_len]; omega), scells_len, show A.length * 2 + 1 - A.length * 2 = 1 by omega]
  show scells A ++ [.int .u32 t.lo, .int .u32 y.hi] = scells A ++ [.int .u32 y.lo, .int .u32 y.hi]
  rw [h]

set_option maxRecDepth 100000 in
set_option maxHeartbeats 4000000 in
theorem form_any (L : List SpanV) (vl : Value) (w : World) (hl : Rd w w.heap.size 2 vl L.length (scells L)) (hlen : L.length ≤ 1099511627776) :
    Calls Tryd.prog 26 #[vl] w (SetRes (formOf L) w) := by
  obtain ⟨i0, hi, hz0, hz1, hz2⟩ := info_parts Tryd.infoSpan
  obtain ⟨A0, c0, rfl, hc0⟩ := hl.form
  have HL := Lib.hid hl
  clear hl
  go_enter Tryd.func26, Tryd.ntmps26
  go_wp2
  go_loopw [3, 12] (fun v i wr => ∃ j : Nat, i = .int .i64 j ∧ j ≤ L.length ∧ wr.ownsRow w.heap.size 41 2 v ((L.take j).filter okS).length (scells ((L.take j).filter okS)) ∧ Below w.heap.size w wr) (fun _ i _ => L.length - (intOf i).toNat)
  case atStart => exact ⟨0, rfl, by omega, World.ownsRow_nil _ _ _ _, Below.refl _ _⟩
  case round =>
    obtain ⟨j, rfl, hj, hown, hnx⟩ := hrel
    by_cases hlt : j < L.length
    · have hI : (j : Int) < (L.length : Int) := by omega
      obtain ⟨s, hs⟩ : ∃ s, L[j]? = some s := ⟨_, List.getElem?_eq_getElem hlt⟩
      obtain ⟨b, off, c', hv, _, hbB, hcell⟩ := (HL.out.below hnx).posAt (by omega)
      injection hv with hv1 _ hv3
      subst hv1 hv3
      have f0 : wr.cell? ⟨b, off + j * 2, none⟩ = some (.int .u32 s.lo) := hcell j 0 _ (scell hs rfl)
      have f1 : wr.cell? ⟨b, off + j * 2 + 1, none⟩ = some (.int .u32 s.hi) := hcell j 1 _ (scell hs rfl)
      have hfl := filter_take_len L j
      have hsz := hnx.size
      clear hcell
      have hstep := filter_succ hs
      have hbox := below1 wr (.cells #[.int .u32 s.lo, .int .u32 s.hi] 41)
      by_cases hok : s.lo ≤ s.hi
      · rw [if_pos hok] at hstep
        go_wp2_with (at_builtin; refine wpList_push rfl _ _ 42 rfl 41 i0 _ 2 8 Tryd.underlying42 hi hz0 hz1 hz2 rfl (by decide) (by decide) [.int .u32 s.lo, .int .u32 s.hi] rfl rfl (by simp) (hown.alloc _) rfl (enc_one s) (by omega) (by simp; omega) (hnx.alloc hsz _) (Nat.le_refl _) ?_; intro v2 w2 hown2 hb2)
        refine ⟨⟨j + 1, rfl, by omega, ?_, hb2⟩, by simp only [intOf]; omega⟩
        rw [hstep, scells_snoc, List.length_append]
        exact hown2
      · rw [if_neg hok, List.append_nil] at hstep
        go_wp2
        exact ⟨⟨j + 1, rfl, by omega, by rw [hstep]; exact hown.alloc _, hnx.alloc hsz _⟩, by simp only [intOf]; omega⟩
    · have hI : ¬ (j : Int) < (L.length : Int) := by omega
      obtain rfl : j = L.length := by omega
      rw [List.take_length] at hown
      have hfl := List.length_filter_le okS L
      have hsz := hnx.size
      go_wp2_with fail
      refine (sortSpan_any _ _ _ _ hown (by omega)).mono ?_
      rintro e w1 ⟨rfl, L', hperm, hpw, hR, hbel⟩
      have hb1 : Below w.heap.size w w1 := hnx.trans (hbel _ (Nat.le_refl _) hsz)
      have hlen' : L'.length ≤ L.length := by rw [hperm.length_eq]; exact hfl
      have hF := formOf_eq hperm hpw
      have hml := mfold_len L'
      have hsz1 := hb1.size
      obtain ⟨A2, c2, rfl, hc2⟩ := hR.form
      have HF := Lib.hid hF
      have HR := Lib.hid hR
      have HB1 := Lib.hid hb1
      have HML := Lib.hid hml
      clear hown hnx hfl hperm hpw hbel hF hb1 hml hR
      go_wp2
      go_loopw [6, 30] (fun v i wr => ∃ j : Nat, i = .int .i64 j ∧ j ≤ L'.length ∧ wr.ownsRow w1.heap.size 41 2 v (mfold (L'.take j)).length (scells (mfold (L'.take j))) ∧ Below w1.heap.size w1 wr) (fun _ i _ => L'.length - (intOf i).toNat)
      case atStart => exact ⟨0, rfl, by omega, World.ownsRow_nil _ _ _ _, Below.refl _ _⟩
      case round =>
        obtain ⟨j, rfl, hj, hown, hnx⟩ := hrel
        have hsz := hnx.size
        by_cases hlt : j < L'.length
        · have hI : (j : Int) < (L'.length : Int) := by omega
          obtain ⟨s, hs⟩ : ∃ s, L'[j]? = some s := ⟨_, List.getElem?_eq_getElem hlt⟩
          obtain ⟨b, off, c', hv, _, hbB, hcell⟩ := (HR.out.below hnx).posAt (by omega)
          injection hv with hv1 _ hv3
          subst hv1 hv3
          have f0 : wr.cell? ⟨b, off + j * 2, none⟩ = some (.int .u32 s.lo) := hcell j 0 _ (scell hs rfl)
          have f1 : wr.cell? ⟨b, off + j * 2 + 1, none⟩ = some (.int .u32 s.hi) := hcell j 1 _ (scell hs rfl)
          clear hcell
          have hstep := mfold_succ hs
          have hOl := HML.out j
          generalize mfold (L'.take j) = O at *
          have hHS := Lib.hid hstep
          clear hstep hs
          have hownA := hown.alloc (.cells #[.int .u32 s.lo, .int .u32 s.hi] 41)
          have hnxA := hnx.alloc hsz (.cells #[.int .u32 s.lo, .int .u32 s.hi] 41)
          have kb := blk1 wr (.cells #[.int .u32 s.lo, .int .u32 s.hi] 41)
          have hszA : w1.heap.size ≤ (wr.alloc (.cells #[.int .u32 s.lo, .int .u32 s.hi] 41)).heap.size := by simp; omega
          have hlo := s.hlo
          have hhi := s.hhi
          rcases snoc_cases O with rfl | ⟨A, t, rfl⟩
          · obtain ⟨A3, c3, rfl, _⟩ := owns_form hown
            have HO := Lib.hid hownA
            have HN := Lib.hid hnxA
            have HK := Lib.hid kb
            obtain ⟨x0, x1, _, _⟩ := two_cells kb
            clear hown hnx hownA hnxA kb
            go_wp2
            refine wp_region_quiet_below (by kernel_rfl) (by kernel_rfl) ?_
            repeat (first | go_big_quiet_step (fail) | quiet_step (fail))
            refine wpQuiet_nil ?_
            intro _ hw'
            obtain ⟨⟨nq, osq⟩, hw''⟩ := hw'
            subst hw''
            have hq := below_regrown (wr.alloc (.cells #[.int .u32 s.lo, .int .u32 s.hi] 41)) nq osq
            have own1 := owns_kept_none HO.out (only_of_below hq none)
            have nx1 := HN.out.trans (hq.mono hszA)
            have sz1 := nx1.size
            obtain ⟨y0, y1, _, _⟩ := two_cells (blk_below hq HK.out)
            clear x0 x1 HO HN HK f0 f1
            generalize grow (redrawn (wr.alloc (.cells #[.int .u32 s.lo, .int .u32 s.hi] 41)) nq) osq = W1 at *
            clear hq
            go_wp2_with (at_builtin; refine wpList_push rfl _ _ 42 rfl 41 i0 _ 2 8 Tryd.underlying42 hi hz0 hz1 hz2 rfl (by decide) (by decide) [.int .u32 s.lo, .int .u32 s.hi] rfl rfl (by simp) own1 rfl (enc_one s) (by simp) (by omega) nx1 (Nat.le_refl _) ?_; intro v2 w2 hown2 hb2)
            refine ⟨⟨j + 1, by go_num, by omega, ?_, hb2⟩, by simp only [intOf]; omega⟩
            rw [hHS.out, mstep_nil]
            exact hown2
          · have hl1 : (A ++ [t]).length = A.length + 1 := by simp
            rw [hl1] at hown hownA hOl
            obtain ⟨A3, c3, rfl, hA3⟩ := owns_form hown
            obtain ⟨g, rfl⟩ := hA3 (by omega)
            have e1 : (wr.alloc (.cells #[.int .u32 s.lo, .int .u32 s.hi] 41)).cell? ⟨g, A.length * 2 + 1, none⟩ = some (.int .u32 t.hi) := (hownA.cellAt (A.length * 2 + 1) (by omega)).trans (scell (L := A ++ [t]) (k := A.length) (i := 1) (x := t) (by simp) rfl)
            have HO := Lib.hid hownA
            have HN := Lib.hid hnxA
            have HK := Lib.hid kb
            obtain ⟨x0, x1, _, _⟩ := two_cells kb
            have F0 := cell_regrown x0
            have F1 := cell_regrown x1
            have F2 := cell_regrown e1
            have hthi := t.hhi
            clear hown hnx hownA hnxA kb
            have hm : (t.hi == 4294967295) = true ∨ ((t.hi == 4294967295) = false ∧ (t.hi + 1) % 4294967296 = t.hi + 1 ∧ decide (s.lo ≤ t.hi + 1) = true) ∨ ((t.hi == 4294967295) = false ∧ (t.hi + 1) % 4294967296 = t.hi + 1 ∧ decide (s.lo ≤ t.hi + 1) = false) := by
              by_cases h1 : t.hi = 4294967295
              · exact .inl (by simp [h1])
              · by_cases h2 : s.lo ≤ t.hi + 1
                · exact .inr (.inl ⟨by simp [h1], by omega, by simp [h2]⟩)
                · exact .inr (.inr ⟨by simp [h1], by omega, by simp; omega⟩)
            rcases hm with hm1 | ⟨hm1, hm2, hm3⟩ | ⟨hm1, hm2, hm3⟩
            · have hmg : s.lo ≤ t.hi + 1 := by
                have := eq_of_beq hm1
                omega
              have HM := Lib.hid hmg
              clear hmg
              go_wp2
              refine wp_region_quiet_below (by kernel_rfl) (by kernel_rfl) ?_
              repeat (first | go_big_quiet_step (fail) | quiet_step (fail))
              refine wpQuiet_nil ?_
              intro _ hw'
              obtain ⟨⟨nq, osq⟩, hw''⟩ := hw'
              subst hw''
              have hq := below_regrown (wr.alloc (.cells #[.int .u32 s.lo, .int .u32 s.hi] 41)) nq osq
              have own1 := owns_kept_none HO.out (only_of_below hq none)
              have nx1 := HN.out.trans (hq.mono hszA)
              have sz1 := nx1.size
              have kb1 := blk_below hq HK.out
              obtain ⟨y0, y1, _, _⟩ := two_cells kb1
              clear F0 F1 F2 x0 x1 e1 HO HN HK f0 f1
              generalize grow (redrawn (wr.alloc (.cells #[.int .u32 s.lo, .int .u32 s.hi] 41)) nq) osq = W1 at *
              clear hq
              have z1 : W1.cell? ⟨g, A.length * 2 + 1, none⟩ = some (.int .u32 t.hi) := (own1.cellAt (A.length * 2 + 1) (by omega)).trans (scell (L := A ++ [t]) (k := A.length) (i := 1) (x := t) (by simp) rfl)
              have z2 := own1.frozenAt (A.length * 2 + 1)
              have hgB := (own1.lt g rfl).1
              have hi1 : (0 : Int) ≤ (A.length : Int) := by omega
              have hi2 : (A.length : Int) < (A.length : Int) + 1 := by omega
              have hi3 : (A.length : Int) ≤ 9223372036854775807 := by omega
              have hi4 : IntKind.i64.wrap (A.length : Int) = (A.length : Int) := by rw [IntKind.wrap_i64]; omega
              go_wp2
              go_still_tail 14, (by kernel_rfl)
              have own2 := owns_kept_none own1 (only_drew (World.grownBy.refl W1 none))
              have nx2 := below_drew1 nx1
              have z3 : W1.drew.cell? ⟨g, A.length * 2 + 1, none⟩ = some (.int .u32 t.hi) := z1
              have z4 : W1.drew.frozen? ⟨g, A.length * 2 + 1, none⟩ = false := z2
              clear own1 nx1 z1 z2 kb1 y0 y1 sz1
              change wpList _ _ _ _ _ W1.drew
              generalize W1.drew = W2 at *
              go_wp2
              have s1 := (own2.stored (A.length * 2 + 1) (.int .u32 (max t.hi s.hi))).1
              rw [show (scells (A ++ [t])).set (A.length * 2 + 1) (.int .u32 (max t.hi s.hi)) = scells (A ++ [t.reach s]) from scells_set (A := A) (t := t) (y := t.reach s) rfl] at s1
              refine ⟨⟨j + 1, by go_num, by omega, ?_, nx2.setCell (p := ⟨g, A.length * 2 + 1, none⟩) hgB _⟩, by simp only [intOf]; omega⟩
              rw [hHS.out, mstep_in HM.out, List.length_append]
              exact s1
            · have hmg : s.lo ≤ t.hi + 1 := of_decide_eq_true hm3
              have HM := Lib.hid hmg
              clear hmg
              go_wp2
              refine wp_region_quiet_below (by kernel_rfl) (by kernel_rfl) ?_
              repeat (first | go_big_quiet_step (fail) | quiet_step (fail))
              refine wpQuiet_nil ?_
              intro _ hw'
              obtain ⟨⟨nq, osq⟩, hw''⟩ := hw'
              subst hw''
              have hq := below_regrown (wr.alloc (.cells #[.int .u32 s.lo, .int .u32 s.hi] 41)) nq osq
              have own1 := owns_kept_none HO.out (only_of_below hq none)
              have nx1 := HN.out.trans (hq.mono hszA)
              have sz1 := nx1.size
              have kb1 := blk_below hq HK.out
              obtain ⟨y0, y1, _, _⟩ := two_cells kb1
              clear F0 F1 F2 x0 x1 e1 HO HN HK f0 f1
              generalize grow (redrawn (wr.alloc (.cells #[.int .u32 s.lo, .int .u32 s.hi] 41)) nq) osq = W1 at *
              clear hq
              have z1 : W1.cell? ⟨g, A.length * 2 + 1, none⟩ = some (.int .u32 t.hi) := (own1.cellAt (A.length * 2 + 1) (by omega)).trans (scell (L := A ++ [t]) (k := A.length) (i := 1) (x := t) (by simp) rfl)
              have z2 := own1.frozenAt (A.length * 2 + 1)
              have hgB := (own1.lt g rfl).1
              have hi1 : (0 : Int) ≤ (A.length : Int) := by omega
              have hi2 : (A.length : Int) < (A.length : Int) + 1 := by omega
              have hi3 : (A.length : Int) ≤ 9223372036854775807 := by omega
              have hi4 : IntKind.i64.wrap (A.length : Int) = (A.length : Int) := by rw [IntKind.wrap_i64]; omega
              go_wp2
              go_still_tail 14, (by kernel_rfl)
              have own2 := owns_kept_none own1 (only_drew (World.grownBy.refl W1 none))
              have nx2 := below_drew1 nx1
              have z3 : W1.drew.cell? ⟨g, A.length * 2 + 1, none⟩ = some (.int .u32 t.hi) := z1
              have z4 : W1.drew.frozen? ⟨g, A.length * 2 + 1, none⟩ = false := z2
              clear own1 nx1 z1 z2 kb1 y0 y1 sz1
              change wpList _ _ _ _ _ W1.drew
              generalize W1.drew = W2 at *
              go_wp2
              have s1 := (own2.stored (A.length * 2 + 1) (.int .u32 (max t.hi s.hi))).1
              rw [show (scells (A ++ [t])).set (A.length * 2 + 1) (.int .u32 (max t.hi s.hi)) = scells (A ++ [t.reach s]) from scells_set (A := A) (t := t) (y := t.reach s) rfl] at s1
              refine ⟨⟨j + 1, by go_num, by omega, ?_, nx2.setCell (p := ⟨g, A.length * 2 + 1, none⟩) hgB _⟩, by simp only [intOf]; omega⟩
              rw [hHS.out, mstep_in HM.out, List.length_append]
              exact s1
            · have hmg : ¬ s.lo ≤ t.hi + 1 := of_decide_eq_false hm3
              have HM := Lib.hid hmg
              clear hmg
              go_wp2
              refine wp_region_quiet_below (by kernel_rfl) (by kernel_rfl) ?_
              repeat (first | go_big_quiet_step (fail) | quiet_step (fail))
              refine wpQuiet_nil ?_
              intro _ hw'
              obtain ⟨⟨nq, osq⟩, hw''⟩ := hw'
              subst hw''
              have hq := below_regrown (wr.alloc (.cells #[.int .u32 s.lo, .int .u32 s.hi] 41)) nq osq
              have own1 := owns_kept_none HO.out (only_of_below hq none)
              have nx1 := HN.out.trans (hq.mono hszA)
              have sz1 := nx1.size
              have kb1 := blk_below hq HK.out
              obtain ⟨y0, y1, _, _⟩ := two_cells kb1
              clear F0 F1 F2 x0 x1 e1 HO HN HK f0 f1
              generalize grow (redrawn (wr.alloc (.cells #[.int .u32 s.lo, .int .u32 s.hi] 41)) nq) osq = W1 at *
              clear hq
              go_wp2_with (at_builtin; refine wpList_push rfl _ _ 42 rfl 41 i0 _ 2 8 Tryd.underlying42 hi hz0 hz1 hz2 rfl (by decide) (by decide) [.int .u32 s.lo, .int .u32 s.hi] rfl rfl (by simp) own1 rfl (enc_one s) (by omega) (by omega) nx1 (Nat.le_refl _) ?_; intro v2 w2 hown2 hb2)
              refine ⟨⟨j + 1, by go_num, by omega, ?_, hb2⟩, by simp only [intOf]; omega⟩
              rw [hHS.out, mstep_new (by have := HM.out; omega), scells_snoc (A ++ [t]), List.length_append, hl1]
              exact hown2
        · obtain rfl : j = L'.length := by omega
          rw [List.take_length] at hown
          go_wp2
          go_ret
          refine ⟨_, rfl, ?_, HB1.out.trans (hnx.mono hsz1)⟩
          rw [HF.out.1]
          exact owns_base hown hsz1

end Go.Proofs.YtmgeknghgngliaaDoor

/-
  The document's sets: numbers put in their place, the cuts, the set that is made from cut to cut; numbers counted. No program in sight.
-/
namespace Go.Proofs.YtmgeknghgngliaaDoor

/-- Rising, each once. -/
def Rising (l : List Int) : Prop := l.Pairwise (· < ·)
/-- A number's place: all before it are not greater, all from it on are. -/
theorem rising_put {l : List Int} (h : Rising l) {x : Int} {k : Nat} (h1 : ∀ y ∈ l.take k, y < x) (h2 : ∀ y ∈ l.drop k, x < y) :
    Rising (l.take k ++ x :: l.drop k) ∧ ∀ y, y ∈ l.take k ++ x :: l.drop k ↔ y ∈ l ∨ y = x := by
  constructor
  · unfold Rising at *
    rw [← List.take_append_drop k l, List.pairwise_append] at h
    refine List.pairwise_append.2 ⟨h.1, List.pairwise_cons.2 ⟨h2, h.2.1⟩, fun a ha b hb => ?_⟩
    rcases List.mem_cons.1 hb with rfl | hb
    · exact h1 a ha
    · exact h.2.2 a ha b hb
  · intro y
    have : y ∈ l ↔ y ∈ l.take k ∨ y ∈ l.drop k := by
      rw [← List.mem_append, List.take_append_drop]
    rw [this, List.mem_append, List.mem_cons]
    constructor
    · rintro (h | rfl | h)
      · exact .inl (.inl h)
      · exact .inr rfl
      · exact .inl (.inr h)
    · rintro ((h | h) | rfl)
      · exact .inl h
      · exact .inr (.inr h)
      · exact .inr (.inl rfl)
def isMark (most : Int) (s : SpanV) (y : Int) : Prop := s.lo ≤ s.hi ∧ (y = s.lo ∨ y = s.hi + 1) ∧ y ≤ most
/-- The cuts of sets: 0, and each mark. -/
def CutsOf (most : Int) (S : List SpanV) (C : List Int) : Prop := Rising C ∧ (∀ y ∈ C, 0 ≤ y ∧ y < 4294967296) ∧ ∀ y, y ∈ C ↔ y = 0 ∨ ∃ s ∈ S, isMark most s y
theorem CutsOf.head {most : Int} {S : List SpanV} {C : List Int} (h : CutsOf most S C) : ∃ r, C = 0 :: r := by
  have h0 : (0 : Int) ∈ C := (h.2.2 0).2 (.inl rfl)
  cases C with
  | nil => simp at h0
  | cons c r =>
    refine ⟨r, ?_⟩
    have hc := (h.2.1 c (List.mem_cons_self ..)).1
    rcases List.mem_cons.1 h0 with rfl | h0
    · rfl
    · have := (List.pairwise_cons.1 h.1).1 0 h0
      omega
/-- The end of the part that begins at the i-th cut. -/
def cutEnd (most : Int) (C : List Int) (i : Nat) : Int := match C[i]? with | some y => y | none => most + 1
theorem CutsOf.le {most : Int} (hm : 0 ≤ most) {S : List SpanV} {C : List Int} (h : CutsOf most S C) {y : Int} (hy : y ∈ C) : y ≤ most := by
  rcases (h.2.2 y).1 hy with rfl | ⟨s, _, hs⟩
  · exact hm
  · exact hs.2.2
theorem CutsOf.lt_end {most : Int} (hm : 0 ≤ most) {S : List SpanV} {C : List Int} (h : CutsOf most S C) {i : Nat} {c : Int} (hc : C[i]? = some c) : c < cutEnd most C (i + 1) := by
  unfold cutEnd
  cases hn : C[i + 1]? with
  | none => have := h.le hm (List.mem_of_getElem? hc); show c < most + 1; omega
  | some y =>
    obtain ⟨hi, e⟩ := List.getElem?_eq_some_iff.1 hc
    obtain ⟨hi2, e2⟩ := List.getElem?_eq_some_iff.1 hn
    have := List.pairwise_iff_getElem.1 h.1 i (i + 1) hi hi2 (by omega)
    show c < y
    omega
theorem CutsOf.none_between {most : Int} {S : List SpanV} {C : List Int} (h : CutsOf most S C) {i : Nat} {c y : Int} (hc : C[i]? = some c) (h1 : c < y) (h2 : y < cutEnd most C (i + 1)) : y ∉ C := by
  intro hy
  obtain ⟨j, hj, e⟩ := List.getElem_of_mem hy
  obtain ⟨hi, ei⟩ := List.getElem?_eq_some_iff.1 hc
  have hij : i < j := by
    rcases Nat.lt_trichotomy i j with h' | h' | h'
    · exact h'
    · subst h'; omega
    · have := List.pairwise_iff_getElem.1 h.1 j i hj hi h'; omega
  unfold cutEnd at h2
  have hn : C[i + 1]? = some C[i + 1] := List.getElem?_eq_getElem (by omega)
  rw [hn] at h2
  change y < C[i + 1] at h2
  rcases Nat.eq_or_lt_of_le (show i + 1 ≤ j from hij) with h' | h'
  · subst h'; omega
  · have := List.pairwise_iff_getElem.1 h.1 (i + 1) j (by omega) hj h'; omega
/-- From one cut to the next nothing begins and nothing ends. -/
theorem CutsOf.same {most : Int} (hm : 0 ≤ most) {S : List SpanV} {C : List Int} (h : CutsOf most S C) {L : List SpanV} (hL : ∀ s ∈ L, s ∈ S) {i : Nat} {c x : Int} (hc : C[i]? = some c) (h1 : c ≤ x) (h2 : x < cutEnd most C (i + 1)) :
    hasB L x = hasB L c := by
  have hxm : x ≤ most := by
    unfold cutEnd at h2
    cases hn : C[i + 1]? with
    | none => rw [hn] at h2; change x < most + 1 at h2; omega
    | some y => rw [hn] at h2; change x < y at h2; have := h.le hm (List.mem_of_getElem? hn); omega
  have key : ∀ s ∈ L, s.inB x = s.inB c := by
    intro s hs
    have n1 : s.lo ≤ s.hi → c < s.lo → x < s.lo := by
      intro hv hlo
      rcases Int.lt_or_le x s.lo with h' | h'
      · exact h'
      · exact absurd ((h.2.2 s.lo).2 (.inr ⟨s, hL s hs, hv, .inl rfl, by omega⟩)) (h.none_between hc hlo (by omega))
    have n2 : s.lo ≤ s.hi → c ≤ s.hi → x ≤ s.hi := by
      intro hv hhi
      rcases Int.lt_or_le s.hi x with h' | h'
      · exact absurd ((h.2.2 (s.hi + 1)).2 (.inr ⟨s, hL s hs, hv, .inr rfl, by omega⟩)) (h.none_between hc (by omega) (by omega))
      · exact h'
    rw [Bool.eq_iff_iff, inB_iff, inB_iff]
    rcases Int.lt_or_le s.hi s.lo with hv | hv
    · omega
    · have := n1 hv; have := n2 hv; omega
  have : ∀ M : List SpanV, (∀ s ∈ M, s.inB x = s.inB c) → hasB M x = hasB M c := by
    intro M
    induction M with
    | nil => intro _; rfl
    | cons s M ih =>
      intro hM
      have e1 := hM s (List.mem_cons_self ..)
      have e2 := ih (fun s hs => hM s (List.mem_cons_of_mem _ hs))
      simp only [hasB, List.any_cons] at *
      rw [e1, e2]
  exact this L key
/-- Is a number in what is made? -/
def soB (how : Int) (a b : List SpanV) (x : Int) : Bool :=
  if how = 1 then hasB a x || hasB b x else if how = 2 then hasB a x && hasB b x else if how = 3 then hasB a x && !hasB b x else !hasB a x
theorem CutsOf.so {most : Int} (hm : 0 ≤ most) {a b : List SpanV} {C : List Int} (h : CutsOf most (a ++ b) C) (how : Int) {i : Nat} {c x : Int} (hc : C[i]? = some c) (h1 : c ≤ x) (h2 : x < cutEnd most C (i + 1)) :
    soB how a b x = soB how a b c := by
  unfold soB
  rw [h.same hm (fun s hs => List.mem_append_left _ hs) hc h1 h2, h.same hm (L := b) (fun s hs => List.mem_append_right _ hs) hc h1 h2]
def soP (how most : Int) (a b : List SpanV) (x : Int) : Bool := decide (0 ≤ x) && decide (x ≤ most) && soB how a b x
/-- What has been made up to the i-th cut. -/
def MadeTo (how most : Int) (a b : List SpanV) (C : List Int) (i : Nat) (O : List SpanV) : Prop :=
  NF O ∧ (∀ t ∈ O, t.hi < cutEnd most C i) ∧ ∀ x, hasB O x = (decide (0 ≤ x) && decide (x < cutEnd most C i) && soB how a b x)
theorem MadeTo.zero {how most : Int} {a b : List SpanV} {C : List Int} (h : CutsOf most (a ++ b) C) : MadeTo how most a b C 0 [] := by
  obtain ⟨r, rfl⟩ := h.head
  refine ⟨trivial, fun t ht => by simp at ht, fun x => ?_⟩
  rw [hasB_nil]
  simp [cutEnd]
  omega
theorem MadeTo.skip {how most : Int} (hm : 0 ≤ most) {a b : List SpanV} {C : List Int} (h : CutsOf most (a ++ b) C) {i : Nat} {c : Int} (hc : C[i]? = some c) {O : List SpanV} (hO : MadeTo how most a b C i O) (hs : soB how a b c = false) : MadeTo how most a b C (i + 1) O := by
  obtain ⟨h1, h2, h3⟩ := hO
  have hlt := h.lt_end hm hc
  have e0 : cutEnd most C i = c := by unfold cutEnd; rw [hc]
  rw [e0] at h2 h3
  refine ⟨h1, fun t ht => by have := h2 t ht; omega, fun x => ?_⟩
  rw [h3]
  rcases Int.lt_or_le x c with hx | hx
  · have : x < cutEnd most C (i + 1) := by omega
    simp [hx, this]
  · rcases Int.lt_or_le x (cutEnd most C (i + 1)) with hx2 | hx2
    · rw [h.so hm how hc hx hx2, hs]; simp
    · have e1 : ¬ x < c := by omega
      have e2 : ¬ x < cutEnd most C (i + 1) := by omega
      simp [e1, e2]
theorem made_mem {how most : Int} (hm : 0 ≤ most) {a b : List SpanV} {C : List Int} (h : CutsOf most (a ++ b) C) {i : Nat} {c : Int} (hc : C[i]? = some c) (hs : soB how a b c = true) (hc0 : 0 ≤ c) (x : Int) :
    ((decide (0 ≤ x) && decide (x < c) && soB how a b x) || (decide (c ≤ x) && decide (x ≤ cutEnd most C (i + 1) - 1))) = (decide (0 ≤ x) && decide (x < cutEnd most C (i + 1)) && soB how a b x) := by
  have hlt := h.lt_end hm hc
  rcases Int.lt_or_le x c with hx | hx
  · have h1 : x < cutEnd most C (i + 1) := by omega
    have h2 : ¬ c ≤ x := by omega
    simp [hx, h1, h2]
  · have h2 : ¬ x < c := by omega
    rcases Int.lt_or_le x (cutEnd most C (i + 1)) with hx2 | hx2
    · have h3 : x ≤ cutEnd most C (i + 1) - 1 := by omega
      have h4 : 0 ≤ x := by omega
      rw [h.so hm how hc hx hx2, hs]
      simp [h2, hx, h3, hx2, h4]
    · have h3 : ¬ x ≤ cutEnd most C (i + 1) - 1 := by omega
      have h4 : ¬ x < cutEnd most C (i + 1) := by omega
      simp [h2, h3, h4]
theorem MadeTo.new {how most : Int} (hm : 0 ≤ most) {a b : List SpanV} {C : List Int} (h : CutsOf most (a ++ b) C) {i : Nat} {c : Int} (hc : C[i]? = some c) {O : List SpanV} (hO : MadeTo how most a b C i O) (hs : soB how a b c = true)
    (s : SpanV) (e1 : s.lo = c) (e2 : s.hi = cutEnd most C (i + 1) - 1) (hn : ∀ t ∈ O, t.hi + 1 ≠ c) : MadeTo how most a b C (i + 1) (O ++ [s]) := by
  obtain ⟨h1, h2, h3⟩ := hO
  have hlt := h.lt_end hm hc
  have hc0 := (h.2.1 c (List.mem_of_getElem? hc)).1
  have e0 : cutEnd most C i = c := by unfold cutEnd; rw [hc]
  rw [e0] at h2 h3
  refine ⟨NF.snoc.2 ⟨h1, by omega, fun t ht => by have := h2 t ht; have := hn t ht; omega⟩, fun t ht => ?_, fun x => ?_⟩
  · rcases List.mem_append.1 ht with ht | ht
    · have := h2 t ht; omega
    · obtain rfl := List.mem_singleton.1 ht; omega
  · rw [hasB_append, hasB_one, h3]
    have e : s.inB x = (decide (c ≤ x) && decide (x ≤ cutEnd most C (i + 1) - 1)) := by unfold SpanV.inB; rw [e1, e2]
    rw [e]
    exact made_mem hm h hc hs hc0 x
theorem MadeTo.more {how most : Int} (hm : 0 ≤ most) {a b : List SpanV} {C : List Int} (h : CutsOf most (a ++ b) C) {i : Nat} {c : Int} (hc : C[i]? = some c) {A : List SpanV} {t : SpanV} (hO : MadeTo how most a b C i (A ++ [t])) (hs : soB how a b c = true)
    (s : SpanV) (e1 : s.lo = t.lo) (e2 : s.hi = cutEnd most C (i + 1) - 1) (hn : t.hi + 1 = c) : MadeTo how most a b C (i + 1) (A ++ [s]) := by
  obtain ⟨h1, h2, h3⟩ := hO
  have hlt := h.lt_end hm hc
  have hc0 := (h.2.1 c (List.mem_of_getElem? hc)).1
  have e0 : cutEnd most C i = c := by unfold cutEnd; rw [hc]
  rw [e0] at h2 h3
  obtain ⟨k1, k2, k3⟩ := NF.snoc.1 h1
  refine ⟨NF.snoc.2 ⟨k1, by omega, fun u hu => by have := k3 u hu; omega⟩, fun u hu => ?_, fun x => ?_⟩
  · rcases List.mem_append.1 hu with hu | hu
    · have := h2 u (List.mem_append_left _ hu); omega
    · obtain rfl := List.mem_singleton.1 hu; omega
  · rw [← made_mem hm h hc hs hc0 x, ← h3, hasB_append, hasB_append, hasB_one, hasB_one, Bool.or_assoc]
    congr 1
    unfold SpanV.inB
    rw [e1, e2, Bool.eq_iff_iff]
    simp
    omega
theorem MadeTo.last {how most : Int} {a b : List SpanV} {C : List Int} {O : List SpanV} (hO : MadeTo how most a b C C.length O) : O = theSet (soP how most a b) := by
  obtain ⟨h1, _, h3⟩ := hO
  have e0 : cutEnd most C C.length = most + 1 := by unfold cutEnd; simp
  rw [e0] at h3
  symm
  refine theSet_eq h1 (fun x => ?_)
  rw [h3]
  unfold soP
  congr 2
  rw [Bool.eq_iff_iff]; simp; omega

/-- How many numbers there are. -/
def cnt (F : List SpanV) : Int := (F.map fun s => s.hi - s.lo + 1).sum
theorem cnt_append (A B : List SpanV) : cnt (A ++ B) = cnt A + cnt B := by simp [cnt]
theorem cnt_succ {F : List SpanV} {k : Nat} {s : SpanV} (h : F[k]? = some s) : cnt (F.take (k + 1)) = cnt (F.take k) + (s.hi - s.lo + 1) := by
  rw [List.take_add_one, h, cnt_append]; simp [cnt]
/-- The members below n. -/
def cntP (P : Int → Bool) (n : Nat) : Int := ((List.range n).countP fun x : Nat => P x : Nat)
theorem cntP_succ (P : Int → Bool) (n : Nat) : cntP P (n + 1) = cntP P n + (if P n then 1 else 0) := by
  unfold cntP
  rw [List.range_succ, List.countP_append]
  simp [List.countP_cons]
  split <;> simp
theorem cntP_one (s : SpanV) (hs : s.lo ≤ s.hi) : ∀ n : Nat, cntP s.inB n = if (n : Int) ≤ s.lo then 0 else if (n : Int) ≤ s.hi then n - s.lo else s.hi - s.lo + 1 := by
  intro n
  have := s.hlo
  induction n with
  | zero => simp [cntP]; omega
  | succ n ih =>
    rw [cntP_succ, ih]
    have e : (s.inB n = true) ↔ s.lo ≤ n ∧ (n : Int) ≤ s.hi := inB_iff
    by_cases h : s.inB n = true
    · rw [if_pos h]
      have := e.1 h
      repeat' split
      all_goals omega
    · rw [if_neg h]
      have h' : ¬ (s.lo ≤ n ∧ (n : Int) ≤ s.hi) := fun x => h (e.2 x)
      repeat' split
      all_goals omega
theorem cntP_add {P Q R : Int → Bool} (n : Nat) (h : ∀ x : Nat, x < n → R x = (P x || Q x) ∧ ¬ (P x = true ∧ Q x = true)) : cntP R n = cntP P n + cntP Q n := by
  induction n with
  | zero => simp [cntP]
  | succ n ih =>
    rw [cntP_succ, cntP_succ, cntP_succ, ih (fun x hx => h x (by omega))]
    obtain ⟨h1, h2⟩ := h n (by omega)
    rw [h1]
    cases hp : P n <;> cases hq : Q n <;> simp_all <;> omega
theorem cntP_le (P : Int → Bool) (n : Nat) : 0 ≤ cntP P n ∧ cntP P n ≤ n := by
  unfold cntP
  have := List.countP_le_length (p := fun x : Nat => P x) (l := List.range n)
  simp at this
  omega
theorem cntP_nil (n : Nat) : cntP (hasB []) n = 0 := by
  unfold cntP
  have : (List.range n).countP (fun x : Nat => hasB [] x) = 0 := by
    rw [List.countP_eq_zero]; intro x _; simp [hasB]
  rw [this]; rfl
theorem cnt_members {n : Nat} (hn : (n : Int) = 4294967296) : ∀ {F : List SpanV}, NF F → cnt F = cntP (hasB F) n
  | [], _ => (cntP_nil n).symm
  | s :: r, h => by
    have hs := s.hhi
    have h1 := cntP_one s h.1 n
    rw [if_neg (by have := h.1; omega), if_neg (by omega)] at h1
    have e : cnt (s :: r) = (s.hi - s.lo + 1) + cnt r := by simp [cnt]
    rw [e, cnt_members hn h.2.2, ← h1]
    symm
    refine cntP_add _ (fun x _ => ⟨rfl, ?_⟩)
    rintro ⟨h3, h4⟩
    obtain ⟨u, hu, h5, h6⟩ := hasB_iff.1 h4
    have := inB_iff.1 h3
    have := h.2.1 u hu
    omega
theorem big32 : ∃ n : Nat, (n : Int) = 4294967296 := ⟨4294967296, rfl⟩
theorem cnt_range {F : List SpanV} (h : NF F) : 0 ≤ cnt F ∧ cnt F ≤ 4294967296 := by
  obtain ⟨n, hn⟩ := big32
  rw [cnt_members hn h, ← hn]; exact cntP_le _ _
theorem cnt_take_le {F : List SpanV} (h : NF F) (k : Nat) : 0 ≤ cnt (F.take k) ∧ cnt (F.take k) ≤ 4294967296 := cnt_range (h.take k)

end Go.Proofs.YtmgeknghgngliaaDoor

/-
  The walks of spans.Has, and of the document's Has and so.
-/
namespace Go.Proofs.YtmgeknghgngliaaDoor
open Go Go.RowKit Go.Lib Go.Sort

theorem hasB_hit {L : List SpanV} {j : Nat} {s : SpanV} {x : Int} (h : L[j]? = some s) (h1 : s.lo ≤ x) (h2 : x ≤ s.hi) : hasB L x = true := hasB_iff.2 ⟨s, List.mem_of_getElem? h, h1, h2⟩

end Go.Proofs.YtmgeknghgngliaaDoor

/-
  Small general lemmas, the fourth text: an append tells whether its row lies where it lay; no program in sight.
-/
namespace Go.Proofs.YtmgeknghgngliaaDoor
open Go Go.RowKit

theorem grown_none {w w' : World} (h : w.grownBy w' none) (r : Option Nat) : w.grownBy w' r := ⟨h.os, h.tape, h.output, h.size, fun i hi _ => h.block i hi (by simp)⟩
/-- The row lies where it lay, or in a block of its own laid since. -/
def Moved (v v' : Value) (k : Nat) : Prop := v'.ownBlock = v.ownBlock ∨ ∀ g, v'.ownBlock = some g → k ≤ g
theorem wpList_push2 {P : Program} {ops : Array Oper} {rest : List Oper} {o : Oper} {a : Act} {Q : Exit → Act → World → Prop} (hgd : o.guard = none) (s x : Operand) (t : TypeId)
    (ho : o.op = .call { callee := .builtin .append, args := #[s, x], argTypes := #[t, t] })
    (e : TypeId) (i : TypeInfo) (z : Value) (size bytes : Nat) (ht : P.underlying t = some (.slice e)) (hi : P.info? e = some i) (hz : i.zero = some z)
    (hsize : i.size = size) (hby : i.bytes = bytes) (hzs : z.cells.size = size) (hsz : 0 < size) (hb64 : bytes ≤ 64)
    {w0 : World} {base n : Nat} {v : Value} {xs : List Value} (es : List Value) (hs : a.eval s = v) {g0 : Nat} (hx : a.eval x = .slice (some ⟨g0, 0, none⟩) 1 1) (hg0 : g0 = w0.heap.size)
    (hown : w0.ownsRow base e size v n xs) (hes : es.length = size) (h1 : ∀ u ∈ es, u.oneCell' = true) (hn : n ≤ 1099511627776) (hbase : base ≤ w0.heap.size)
    (h : ∀ v' w', w'.ownsRow base e size v' (n + 1) (xs ++ es) → w0.grownBy w' v.ownBlock → Moved v v' w0.heap.size → wpList P ops Q rest (a.put o.dst v') w') : wpList P ops Q (o :: rest) a (w0.alloc (.cells es.toArray e)) := by
  subst hg0
  have hb2 : (n + 1) * bytes ≤ 140737488355328 :=
    calc (n + 1) * bytes ≤ (1099511627776 + 1) * 64 := Nat.mul_le_mul (by omega) hb64
      _ ≤ 140737488355328 := by decide
  have hownA := hown.alloc (.cells es.toArray e)
  have hgA : w0.grownBy (w0.alloc (.cells es.toArray e)) none := World.grownBy_alloc w0 _ none
  have hnew := cells_new w0 es e
  rcases hown.2 with ⟨rfl, rfl⟩ | ⟨g, cap, cur, rfl, hbg, hg, hnc, hcm, hcs, htake⟩
  · obtain rfl : xs = [] := List.eq_nil_of_length_eq_zero (by have := hown.1; omega)
    refine wpList_append_grows _ hgd s x t ho e i z size bytes ht hi hz hsize hby hzs hsz none 0 0 [] hs (fun _ => ⟨rfl, rfl⟩) (by simp) (fun b hb => by cases hb) ⟨w0.heap.size, 0, none⟩ 1 1 es hx (by omega) hnew h1 (by omega) (by unfold maxLen; omega) hb2 ?_
    intro v' w' h2 h3
    refine h v' w' (owns_base h2 (by simp; omega)) (grown_none (hgA.trans h3) _) (.inr fun g hg => ?_)
    have := (h2.lt g hg).1
    simp at this; omega
  · by_cases hroom : n + 1 ≤ cap
    · obtain ⟨w', hr, h2, h3⟩ := run_append_fits (P := P) _ base t o.type e i size ht hi hsize g n cap xs hownA ⟨w0.heap.size, 0, none⟩ 1 1 es (by omega) hnew h1 hroom
      refine wpList_plain hgd fun K hK => ?_
      unfold Oper.wp execOp
      simp only [ho, resolve, invoke, builtin, Sem.run_bind, Sem.run_pure, Result.andThen_ok, List.map_toArray, List.map_cons, List.map_nil, hs, hx, hr]
      exact hK _ _ (h _ w' h2 ((grown_none hgA _).trans h3) (.inl rfl))
    · refine wpList_append_grows _ hgd s x t ho e i z size bytes ht hi hz hsize hby hzs hsz (some ⟨g, 0, none⟩) n cap xs hs (fun hh => by cases hh) hown.1 (fun b hb j u hu => ?_) ⟨w0.heap.size, 0, none⟩ 1 1 es hx (by omega) hnew h1 (by omega) (by unfold maxLen; omega) hb2 ?_
      · injection hb with hb
        subst hb
        exact hownA.cells rfl j u hu
      · intro v' w' h2 h3
        refine h v' w' (owns_base h2 (by simp; omega)) (grown_none (hgA.trans h3) _) (.inr fun g hg => ?_)
        have := (h2.lt g hg).1
        simp at this; omega
theorem grown_setRow (w : World) (g : Nat) (cs : Array Value) : w.grownBy (w.setRow g cs) (some g) :=
  ⟨rfl, rfl, rfl, by simp, fun k _ hk => setRow_other w g k _ (fun e => hk (by simp [e]))⟩
/-- copy, as one step of a region that draws its order, into a known row: no other block turns. -/
theorem step_copy_grown {P : Program} {ops : Array Oper} {o : Oper} {a : Act} {w : World} {K : Act → World → Prop} {Q : Exit → Act → World → Prop} {E : Prop} (hgd : o.guard = none) (d s : Operand) (dT sT : TypeId)
    (ho : o.op = .call { callee := .builtin .copy, args := #[d, s], argTypes := #[dT, sT] }) (elem : TypeId) (hu : P.underlying dT = some (.slice elem)) (hsz : (P.info? elem).map (·.size) = some 1)
    (dp sp : Option Addr) (dLen dCap sLen sCap : Nat) (hd : a.eval d = .slice dp dLen dCap) (hs : a.eval s = .slice sp sLen sCap)
    (g off : Nat) (cur : List Value) (t : TypeId) (hg : w.heap[g]? = some (.cells cur.toArray t (0, 0))) (cs : List Value) (hn : cs.length = Nat.min sLen dLen)
    (hpos : 0 < cs.length → dp = some ⟨g, off, none⟩ ∧ ∃ ad, sp = some ad ∧ ∀ j v, cs[j]? = some v → w.cell? (ad.add j) = some v)
    (hfit : off + cs.length ≤ cur.length) (h1 : ∀ v ∈ cs, v.oneCell' = true)
    (h : ∀ w', Hid (w'.heap[g]? = some (.cells (splice cur off cs).toArray t (0, 0))) → w.grownBy w' (some g) → K (a.put o.dst (goInt cs.length)) w') :
    if Region.wanted o (yielded ops a.tmps) = true then Oper.wp P o a w K Q else E := by
  rw [if_pos (by simp [Region.wanted, hgd])]
  unfold Oper.wp
  rcases Nat.eq_zero_or_pos cs.length with h0 | h0
  · obtain rfl : cs = [] := List.eq_nil_of_length_eq_zero h0
    have hr := run_copy_none (P := P) w dT sT o.type elem dp sp dLen dCap sLen sCap hu hsz (by simpa using hn.symm)
    simp [execOp, ho, resolve, invoke, builtin, hd, hs, hr, Result.andThen]
    exact h w (by show _ = _; simpa [splice] using hg) (World.grownBy.refl w _)
  · obtain ⟨rfl, ad, rfl, hsrc⟩ := hpos h0
    have hr := run_copy_row (P := P) w dT sT o.type elem g off dLen dCap ad sLen sCap cur.toArray t cs hu hsz hg hn hsrc (by simpa using hfit) h1
    simp [execOp, ho, resolve, invoke, builtin, hd, hs, hr, Result.andThen]
    exact h _ (by show _ = _; simpa [splice] using setRow_heap w g _ _ t _ hg) (grown_setRow w g _)
/-- Behind an append that may have moved the row, and writes into it. -/
theorem grown_moved {v v' : Value} {w w1 w2 : World} {g : Nat} (h : w.grownBy w1 v.ownBlock) (hm : Moved v v' w.heap.size) (hv : v'.ownBlock = some g) (h2 : w1.grownBy w2 (some g)) : w.grownBy w2 v.ownBlock := by
  refine ⟨h2.os.trans h.os, h2.tape.trans h.tape, h2.output.trans h.output, Nat.le_trans h.size h2.size, fun i hi hne => ?_⟩
  refine (h2.block i (Nat.lt_of_lt_of_le hi h.size) (fun hh => ?_)).trans (h.block i hi hne)
  injection hh with hh
  rcases hm with hm | hm
  · exact hne (by rw [← hm, hv, hh])
  · have := hm g hv; omega
/-- The blocks from lo on below hi are as they were. -/
def Seg (lo hi : Nat) (a w : World) : Prop := ∀ b, lo ≤ b → b < hi → w.heap[b]? = a.heap[b]?
/-- The row lies below lo or from hi on. -/
def Off (v : Value) (lo hi : Nat) : Prop := ∀ g, v.ownBlock = some g → g < lo ∨ hi ≤ g
theorem Off.moved {v v' : Value} {lo hi k : Nat} (h : Off v lo hi) (hm : Moved v v' k) (hk : hi ≤ k) : Off v' lo hi := by
  intro g hg
  rcases hm with hm | hm
  · exact h g (hm ▸ hg)
  · exact .inr (Nat.le_trans hk (hm g hg))
theorem Seg.refl (lo hi : Nat) (a : World) : Seg lo hi a a := fun _ _ _ => rfl
theorem Seg.grown {v : Value} {lo hi : Nat} {a w w' : World} (h : Seg lo hi a w) (hg : w.grownBy w' v.ownBlock) (ho : Off v lo hi) (hs : hi ≤ w.heap.size) : Seg lo hi a w' := by
  intro b h1 h2
  refine (hg.block b (by omega) (fun hb => ?_)).trans (h b h1 h2)
  rcases ho b hb.symm with h3 | h3 <;> omega
theorem Seg.below {lo hi : Nat} {a w w' : World} (h : Seg lo hi a w) (hb : Below w.heap.size w w') (hs : hi ≤ w.heap.size) : Seg lo hi a w' :=
  fun b h1 h2 => (hb.block b (by omega)).trans (h b h1 h2)
theorem Seg.alloc {lo hi : Nat} {a w : World} (h : Seg lo hi a w) (hs : hi ≤ w.heap.size) (o : Obj) : Seg lo hi a (w.alloc o) := h.below (below1 w o) hs

end Go.Proofs.YtmgeknghgngliaaDoor

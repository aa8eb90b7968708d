/-
  Joined texts: Aw8, Sp1, OpenS, Sp2, Sp3, SpMath4, Sp6, Kit4, Sp7, Sp8, Sp9, Sp4, Sp5, Sp10, Sx1.
-/
import Derived.Test.YtpmoepipoafegaaGreatDoorMRoutesTexts9
import Derived.Test.YtpmoepipoafegaaGreatDoorMRoutesTexts6
import Derived.Test.YtpmoepipoafegaaGreatDoorMRoutesTexts4
import Derived.Test.YtpmoepipoafegaaGreatDoorShelf4
import Derived.Deep.RegionHeld3
import Derived.Deep.Slices
import Derived.ChangeSame
import Derived.Lib.LaidU8
import Derived.OpenShut
import Derived.WideShapes
import Derived.ChangeMaps5
import Derived.Laws.OwnMore
import Derived.Deep.DeepCutAuto
import Derived.StillTailTactics
import Derived.Test.YtpmoepipoafegaaGreatDoorShelf2
import Derived.ArgAppend
import Derived.Laws.CopyOwn
import Derived.Test.YtpmoepipoafegaaGreatDoorProg
import Derived.Deep.RegionLaw
import Derived.Deep.CutBlock
import Derived.Test.YtpmoepipoafegaaGreatDoorMRoutesTexts5
/-
  The law's own awake() of stage 8 (written by wip/gen/genaw8.py).
-/
namespace Go.Proofs.YtpmoepipoafegaaGreatDoor
open Go Go.RowKit Go.Sort

def r08 : RtV := ⟨167772160, 8, 3, 110, 20, 0, [101, 116, 104, 48], 167837697, false, by omega, by omega, by omega, by omega, by omega, by omega, by omega⟩
theorem r08_ok : r08.ok = true := by kernel_rfl
theorem r08_text : r08.text = (#[49, 48, 46, 48, 46, 48, 46, 48, 47, 56, 32, 105, 110, 116, 114, 97, 32, 49, 49, 48, 32, 50, 48, 32, 48, 32, 118, 105, 97, 32, 49, 48, 46, 49, 46, 48, 46, 49, 32, 111, 110, 32, 101, 116, 104, 48] : Array UInt8).toList := by kernel_rfl
set_option maxRecDepth 100000 in
theorem text08 (w : World) (hE : Env w) : Calls Tryz.prog 6 #[.agg #[.int .u32 167772160, .int .i64 8, .int .u8 3, .int .i64 110, .int .i64 20, .int .i64 0, .string ⟨#[101, 116, 104, 48]⟩, .int .u32 167837697, .bool false]] w fun e w' => e = .returned (.tuple #[.string ⟨#[49, 48, 46, 48, 46, 48, 46, 48, 47, 56, 32, 105, 110, 116, 114, 97, 32, 49, 49, 48, 32, 50, 48, 32, 48, 32, 118, 105, 97, 32, 49, 48, 46, 49, 46, 48, 46, 49, 32, 111, 110, 32, 101, 116, 104, 48]⟩, .int .i64 0]) ∧ Below w.heap.size w w' := by
  have h := rtText_any r08 w hE (fun _ => name_any _)
  rw [(rt_told_yes r08_ok).1, (rt_told_yes r08_ok).2, r08_text] at h
  exact h
set_option maxRecDepth 100000 in
theorem parse08 (w : World) (hE : Env w) : Calls Tryz.prog 10 #[.string ⟨#[49, 48, 46, 48, 46, 48, 46, 48, 47, 56, 32, 105, 110, 116, 114, 97, 32, 49, 49, 48, 32, 50, 48, 32, 48, 32, 118, 105, 97, 32, 49, 48, 46, 49, 46, 48, 46, 49, 32, 111, 110, 32, 101, 116, 104, 48]⟩] w fun e w' => e = .returned (.tuple #[.agg #[.int .u32 167772160, .int .i64 8, .int .u8 3, .int .i64 110, .int .i64 20, .int .i64 0, .string ⟨#[101, 116, 104, 48]⟩, .int .u32 167837697, .bool false], .int .i64 0]) ∧ Below w.heap.size w w' := by
  have h := rtParse_any ⟨#[49, 48, 46, 48, 46, 48, 46, 48, 47, 56, 32, 105, 110, 116, 114, 97, 32, 49, 49, 48, 32, 50, 48, 32, 48, 32, 118, 105, 97, 32, 49, 48, 46, 49, 46, 48, 46, 49, 32, 111, 110, 32, 101, 116, 104, 48]⟩ w hE (by decide)
  have e := ro_some (l := (⟨#[49, 48, 46, 48, 46, 48, 46, 48, 47, 56, 32, 105, 110, 116, 114, 97, 32, 49, 49, 48, 32, 50, 48, 32, 48, 32, 118, 105, 97, 32, 49, 48, 46, 49, 46, 48, 46, 49, 32, 111, 110, 32, 101, 116, 104, 48]⟩ : ByteArray).data.toList) (r := r08) (by rw [show (⟨#[49, 48, 46, 48, 46, 48, 46, 48, 47, 56, 32, 105, 110, 116, 114, 97, 32, 49, 49, 48, 32, 50, 48, 32, 48, 32, 118, 105, 97, 32, 49, 48, 46, 49, 46, 48, 46, 49, 32, 111, 110, 32, 101, 116, 104, 48]⟩ : ByteArray).data.toList = r08.text from r08_text.symm]; exact roO_text r08_ok)
  rw [e.1, e.2] at h
  exact h
theorem eql08 (W : World) : (binOp .eql 27 (.agg #[.int .u32 167772160, .int .i64 8, .int .u8 3, .int .i64 110, .int .i64 20, .int .i64 0, .string ⟨#[101, 116, 104, 48]⟩, .int .u32 167837697, .bool false]) (.agg #[.int .u32 167772160, .int .i64 8, .int .u8 3, .int .i64 110, .int .i64 20, .int .i64 0, .string ⟨#[101, 116, 104, 48]⟩, .int .u32 167837697, .bool false])).run Tryz.prog W = .ok (.bool true) W := by
  obtain ⟨b, h1, h2⟩ := eqlRoute r08 r08
  rw [h2.2 rfl] at h1
  exact h1 W
set_option maxRecDepth 100000 in
set_option maxHeartbeats 4000000 in
theorem lawAwake08_any (w : World) (hE : Env w) : Calls Tryz.prog 4 #[] w fun e w' => e = .returned (.bool true) ∧ Below w.heap.size w w' := by
  have hk0 := heap_alloc_new w (.cells #[.int .u32 167772160, .int .i64 8, .int .u8 3, .int .i64 110, .int .i64 20, .int .i64 0, .string ⟨#[101, 116, 104, 48]⟩, .int .u32 167837697, .bool false] 27)
  have hb0 := below1 w (.cells #[.int .u32 167772160, .int .i64 8, .int .u8 3, .int .i64 110, .int .i64 20, .int .i64 0, .string ⟨#[101, 116, 104, 48]⟩, .int .u32 167837697, .bool false] 27)
  have hE0 := hE.below hb0
  obtain ⟨c0, c1, c2, c3, c4, c5, c6, c7, c8⟩ := blk9 (t := 27) hk0
  go_enter Tryz.func4, Tryz.ntmps4
  go_wp2_with fail
  refine (text08 _ hE0).mono ?_
  rintro e w1 ⟨rfl, hb⟩
  have hb1 := below_call hb0 hb
  have k1 := blk_below hb hk0
  clear c0 c1 c2 c3 c4 c5 c6 c7 c8
  go_wp2_with fail
  refine (parse08 _ (hE.below hb1)).mono ?_
  rintro e w2 ⟨rfl, hb⟩
  have hb2 := below_call hb1 hb
  have k2 := blk_below hb k1
  have k3 := blk_below (below1 w2 (.cells #[.int .u32 167772160, .int .i64 8, .int .u8 3, .int .i64 110, .int .i64 20, .int .i64 0, .string ⟨#[101, 116, 104, 48]⟩, .int .u32 167837697, .bool false] 27)) k2
  have k4 := heap_alloc_new w2 (.cells #[.int .u32 167772160, .int .i64 8, .int .u8 3, .int .i64 110, .int .i64 20, .int .i64 0, .string ⟨#[101, 116, 104, 48]⟩, .int .u32 167837697, .bool false] 27)
  obtain ⟨c0, c1, c2, c3, c4, c5, c6, c7, c8⟩ := blk9 (t := 27) k3
  obtain ⟨d0, d1, d2, d3, d4, d5, d6, d7, d8⟩ := blk9 (t := 27) k4
  have hbf := hb2.alloc hb2.size (.cells #[.int .u32 167772160, .int .i64 8, .int .u8 3, .int .i64 110, .int .i64 20, .int .i64 0, .string ⟨#[101, 116, 104, 48]⟩, .int .u32 167837697, .bool false] 27)
  have hq := eql08
  clear hk0 k1 k2 k3 k4 hb hb0 hb1 hb2
  go_wp2
  go_ret
  exact ⟨rfl, hbf⟩
end Go.Proofs.YtpmoepipoafegaaGreatDoor

/-
  Walks over the layer of spans: the closure of Form, the sort of spans.
-/
namespace Go.Proofs.YtpmoepipoafegaaGreatDoor
open Go Go.RowKit Go.Lib Go.Sort

def SpanV.enc (s : SpanV) : List Value := [.int .u32 s.lo, .int .u32 s.hi]
theorem span_len (s : SpanV) : s.enc.length = 2 := rfl
def cmpS (x y : SpanV) : Int := firstNZ [cmpI x.lo y.lo, cmpI x.hi y.hi]

end Go.Proofs.YtpmoepipoafegaaGreatDoor

/-
  Arguments opened to cells: structs of any depth, slices of structs of any length; no program in sight.
-/
namespace Go.Proofs.YtpmoepipoafegaaGreatDoor
open Go Go.RowKit Go.ChangeShapes Go.WideShapes Go.Deep

theorem list_told {α : Type} {Q : Nat → α → Prop} : ∀ n, (∀ i, i < n → ∃ r, Q i r) → ∃ L : List α, L.length = n ∧ ∀ i x, L[i]? = some x → Q i x
  | 0, _ => ⟨[], rfl, fun i x h => by simp at h⟩
  | n + 1, h => by
    obtain ⟨L, hl, hq⟩ := list_told n (fun i hi => h i (by omega))
    obtain ⟨r, hr⟩ := h n (by omega)
    refine ⟨L ++ [r], by simp [hl], fun i x hx => ?_⟩
    by_cases hi : i < L.length
    · rw [List.getElem?_append_left hi] at hx; exact hq i x hx
    · rw [List.getElem?_append_right (by omega)] at hx
      have : i - L.length = 0 := by
        have := (List.getElem?_eq_some_iff.1 hx).1
        simp at this; omega
      rw [this] at hx
      simp at hx
      subst hx
      have : i = n := by omega
      rw [this]; exact hr
theorem flat_inv {α : Type} (enc : α → List Value) (k : Nat) (hk : ∀ x, (enc x).length = k) (L : List α) (j : Nat) (u : Value) (h : (L.flatMap enc)[j]? = some u) :
    ∃ (i jj : Nat) (x : α), j = i * k + jj ∧ jj < k ∧ L[i]? = some x ∧ (enc x)[jj]? = some u := by
  have hj := (List.getElem?_eq_some_iff.1 h).1
  rw [flat_len enc k hk] at hj
  have hk0 : 0 < k := by
    rcases Nat.eq_zero_or_pos k with h0 | h0
    · subst h0; simp at hj
    · exact h0
  have hd : j / k < L.length := Nat.div_lt_of_lt_mul (by rw [Nat.mul_comm]; exact hj)
  have hm := Nat.mod_lt j hk0
  have hdm : j = j / k * k + j % k := by rw [Nat.mul_comm]; exact (Nat.div_add_mod j k).symm
  have hx := List.getElem?_eq_getElem hd
  have hu : (enc L[j / k])[j % k]? = some ((enc L[j / k])[j % k]'(by rw [hk]; exact hm)) := List.getElem?_eq_getElem _
  have hg := flat_get enc k hk L _ _ _ _ hx hu
  rw [← hdm, h] at hg
  exact ⟨j / k, j % k, _, hdm, hm, hx, hu.trans hg.symm⟩

section
variable {H : Type} {enc : TypeId × Value → H} {P : Program} {w : World} {base : Nat} {spare : Nat → Bool} {held : Bool}
theorem sub_at {t : TypeId} {fs : Array Field} {n : Nat} {cs : List Value} {x : DataW H × List MemPlace} (ht : P.underlying t = some (.struct fs)) (h : DataW.trod enc P w base spare held n t cs = some x) :
    cs.length = P.cellsOf t ∧ ∃ m, ∀ (j : Nat) (f : Field) (off : Nat) (ty : TypeId) (k : Nat), fs[j]? = some f → f.offset = off → f.type = ty → P.cellsOf ty = k → ∃ y, DataW.trod enc P w base spare held m ty ((cs.drop off).take k) = some y := by
  obtain ⟨xs, m, _, _, hl, hlen, hf⟩ := DataW.trod_struct ht h
  refine ⟨hl, m, fun j f off ty k hj ho hty hk => ?_⟩
  have h1 := hf j f hj
  have hjl : j < xs.length := by rw [hlen]; exact (Array.getElem?_eq_some_iff.1 hj).1
  subst ho hty hk
  exact ⟨_, h1.trans (List.getElem?_eq_getElem hjl)⟩
/-- A struct as a parameter. -/
theorem open_agg {r : Reach} {b0 : Nat} {t : TypeId} {fs : Array Field} {v : Value} {d : DataW H} {p : List MemPlace} (hs : P.underlying t = some (.struct fs)) (hv : Value.okWide P w r b0 t v) (h : DataW.Trod enc P w base spare held t v d p) :
    ∃ (cs : List Value) (n : Nat), v = .agg cs.toArray ∧ DataW.trod enc P w base spare held n t cs = some (d, p) := by
  obtain ⟨cs, rfl, _⟩ := okWide_struct hs hv
  obtain ⟨n, hf⟩ := h
  exact ⟨cs.toList, n, by simp, hf⟩
/-- A slice as a parameter. -/
theorem open_sl {r : Reach} {b0 : Nat} {t e : TypeId} {v : Value} {d : DataW H} {p : List MemPlace} (hs : P.underlying t = some (.slice e)) (hv : Value.okWide P w r b0 t v) (h : DataW.Trod enc P w base spare held t v d p) :
    ∃ n, DataW.trod enc P w base spare held n t [v] = some (d, p) := by
  obtain ⟨a, len, cap, rfl⟩ := okWide_slice hs hv
  exact h
/-- A slice whose elements' cells are told by one list each. -/
theorem open_rd {α : Type} {encV : α → List Value} {k : Nat} (hk : ∀ x, (encV x).length = k) (hk0 : 0 < k) {t e : TypeId} {n : Nat} {cs : List Value} {x : DataW H × List MemPlace} (ht : P.underlying t = some (.slice e)) (hC : P.cellsOf e = k)
    (hel : ∀ n cs y, DataW.trod enc P w base spare held n e cs = some y → ∃ r, cs = encV r) (h : DataW.trod enc P w base spare held n t cs = some x) :
    ∃ (v : Value) (L : List α), cs = [v] ∧ Rd w w.heap.size k v L.length (L.flatMap encV) ∧ L.length ≤ maxLen := by
  rcases open_slice ht h with ⟨h0, _⟩ | ⟨a, len, cap, m, n', D, Pl, hcs, _, hl, hm, hmm, _, hi⟩
  · exact ⟨_, [], h0, ⟨none, 0, rfl, by simp, by simp, fun h => absurd h (by simp)⟩, by simp⟩
  · have hlm : len ≤ m := by rw [hmm]; split <;> omega
    obtain ⟨L, hL, hq⟩ := list_told (Q := fun i r => w.cells? base (a.add (i * k)) k = some (encV r)) len (fun i hi' => by
      obtain ⟨cs', hc, ht'⟩ := hi i (by omega)
      obtain ⟨r, hr⟩ := hel _ _ _ ht'
      rw [hC] at hc
      exact ⟨r, by rw [hc, hr]⟩)
    refine ⟨_, L, hcs, ⟨some a, cap, by rw [hL], by omega, flat_len encV k hk L, fun hpos => ?_⟩, by omega⟩
    obtain ⟨b, off, sp⟩ := a
    have hz : ∃ u, w.cell? ⟨b, off, sp⟩ = some u := by
      obtain ⟨r, hr⟩ : ∃ r, L[0]? = some r := ⟨_, List.getElem?_eq_getElem hpos⟩
      obtain ⟨_, _, hat⟩ := World.cells?_some (hq 0 r hr)
      have h1 := hat 0 hk0
      have h2 : (encV r)[0]? = some ((encV r)[0]'(by rw [hk]; exact hk0)) := List.getElem?_eq_getElem _
      rw [h2] at h1
      refine ⟨_, Eq.trans ?_ h1⟩
      simp [Addr.add]
    obtain ⟨u0, hu0⟩ := hz
    obtain rfl := Go.Proofs.cell_spot hu0
    refine ⟨b, off, rfl, ?_, fun j u hu => ?_⟩
    · rcases Nat.lt_or_ge b w.heap.size with h | h
      · exact h
      · have hn : w.heap[b]? = none := by simp [h]
        simp [World.cell?, hn] at hu0
    · obtain ⟨i, jj, r, hj, hjj, hr, hu'⟩ := flat_inv encV k hk L j u hu
      obtain ⟨_, _, hat⟩ := World.cells?_some (hq i r hr)
      have h1 := hat jj hjj
      rw [hu'] at h1
      have e : (Addr.add ⟨b, off, none⟩ (i * k)).add jj = ⟨b, off + j, none⟩ := by
        rw [hj]; simp only [Addr.add]
        split <;> split <;> simp_all <;> omega
      rw [← e]; exact h1
end

end Go.Proofs.YtpmoepipoafegaaGreatDoor

/-
  Rows of structs and the shelf's sort: cells told both ways; the sort of spans.
-/
namespace Go.Proofs.YtpmoepipoafegaaGreatDoor
open Go Go.RowKit Go.Lib Go.Sort

section
variable {α : Type} [Inhabited α] {enc : α → List Value} {k : Nat}
theorem flatK_at (hk : ∀ x, (enc x).length = k) {L : List α} {j : Nat} {u : Value} (h : (L.flatMap enc)[j]? = some u) : (flatK enc k L.toArray)[j]! = u := by
  have hj := (List.getElem?_eq_some_iff.1 h).1
  rw [flat_len enc k hk] at hj
  rw [get_flatK _ _ _ _ (by simpa using hj)]
  obtain ⟨i, jj, x, rfl, hjj, hx, hu⟩ := flat_inv enc k hk L j u h
  have e1 : (i * k + jj) / k = i := by
    rw [Nat.mul_comm, Nat.mul_add_div (by omega), Nat.div_eq_of_lt hjj, Nat.add_zero]
  have e2 : (i * k + jj) % k = jj := by
    rw [Nat.mul_comm, Nat.mul_add_mod, Nat.mod_eq_of_lt hjj]
  rw [e1, e2]
  have hi := (List.getElem?_eq_some_iff.1 hx)
  have e3 : L.toArray[i]! = x := by
    have := get_bang hi.1
    rw [hx] at this
    injection this with this
    rw [this]
    simp
  rw [e3]
  have := get_bang (List.getElem?_eq_some_iff.1 hu).1
  rw [hu] at this
  injection this with this
  exact this.symm
theorem holdsK_of (hk : ∀ x, (enc x).length = k) {L : List α} {w : World} {g off : Nat} (h : ∀ j u, (L.flatMap enc)[j]? = some u → w.cell? ⟨g, off + j, none⟩ = some u) (hf : ∀ j, w.frozen? ⟨g, j, none⟩ = false) : HoldsK enc k w g off L.toArray := by
  intro j hj
  rw [size_flatK] at hj
  have hj' : j < (L.flatMap enc).length := by rw [flat_len enc k hk]; simpa using hj
  refine ⟨?_, hf _⟩
  rw [flatK_at hk (List.getElem?_eq_getElem hj')]
  exact h j _ (List.getElem?_eq_getElem hj')
theorem cells_of_holdsK (hk : ∀ x, (enc x).length = k) {d : Array α} {w : World} {g off : Nat} (h : HoldsK enc k w g off d) : ∀ j u, (d.toList.flatMap enc)[j]? = some u → w.cell? ⟨g, off + j, none⟩ = some u := by
  intro j u hu
  have hj := (List.getElem?_eq_some_iff.1 hu).1
  rw [flat_len enc k hk] at hj
  have := (h j (by rw [size_flatK]; simpa using hj)).1
  have e := flatK_at hk (L := d.toList) hu
  rw [show d.toList.toArray = d by simp] at e
  rw [e] at this
  exact this
theorem below_sortWorldK {w : World} {B g off m : Nat} {d : Array α} {os : Array Obj} (hg : B ≤ g) (hB : B ≤ w.heap.size) : RowKit.Below B w (sortWorldK enc k w g off m d os) := by
  refine ⟨rfl, rfl, rfl, ?_, fun i hi => ?_⟩
  · simp [sortWorldK, grow, putRowK, putRow, mapBlock]
  · have hne : i ≠ g := by omega
    simp only [sortWorldK, grow, putRowK, putRow, mapBlock]
    rw [Array.getElem?_append_left (by simp; omega), Array.getElem?_modify, if_neg (Ne.symm hne)]
    rfl
end

theorem ltS (x y : SpanV) : ltOf cmpS x y = decide (x.lo < y.lo ∨ (x.lo = y.lo ∧ x.hi < y.hi)) := by
  unfold ltOf cmpS
  rcases Int.lt_trichotomy x.lo y.lo with h | h | h
  · rw [cmpI_lt h]
    simp [firstNZ, h]
  · rw [h, cmpI_eq]
    rcases Int.lt_trichotomy x.hi y.hi with h2 | h2 | h2
    · rw [cmpI_lt h2]; simp [firstNZ, h2]
    · rw [h2, cmpI_eq]; simp [firstNZ]
    · rw [cmpI_gt h2]; simp [firstNZ]; omega
  · rw [cmpI_gt h]
    simp [firstNZ]; omega
theorem swoS : SWO (ltOf cmpS) where
  irrefl x := by rw [ltS]; simp
  trans x y z h1 h2 := by rw [ltS] at *; simp at *; omega
  ntrans x y z h1 h2 := by rw [ltS] at *; simp at *; omega

def scells (L : List SpanV) : List Value := L.flatMap SpanV.enc
theorem scell {L : List SpanV} {k i : Nat} {x : SpanV} {v : Value} (hr : L[k]? = some x) (hv : x.enc[i]? = some v) : (scells L)[k * 2 + i]? = some v := flat_get SpanV.enc 2 span_len L k i x v hr hv
def SortPost (L : List SpanV) (v : Value) (base : Nat) (w : World) (e : Ending) (w' : World) : Prop :=
  e = .returned (.tuple #[]) ∧ ∃ L' : List SpanV, L'.Perm L ∧ L'.Pairwise (fun x y => x.lo ≤ y.lo) ∧ Rd w' w'.heap.size 2 v L'.length (scells L') ∧ ∀ B, B ≤ base → B ≤ w.heap.size → RowKit.Below B w w'

end Go.Proofs.YtpmoepipoafegaaGreatDoor

/-
  The walk of spans.Form.
-/
namespace Go.Proofs.YtpmoepipoafegaaGreatDoor
open Go Go.RowKit Go.Lib Go.Sort

theorem below_drew1 {B : Nat} {a w : World} (h : Below B a w) : Below B a w.drew := ⟨h.os, h.tape, h.output, h.size, h.block⟩
theorem scells_one (L : List SpanV) : ∀ u ∈ scells L, u.oneCell' = true := by
  intro u hu
  obtain ⟨r, _, hr⟩ := List.mem_flatMap.1 hu
  simp only [SpanV.enc, List.mem_cons, List.not_mem_nil, or_false] at hr
  rcases hr with rfl | rfl <;> rfl
theorem enc_one (s : SpanV) : ∀ u ∈ s.enc, u.oneCell' = true := by
  intro u hu
  simp only [SpanV.enc, List.mem_cons, List.not_mem_nil, or_false] at hu
  rcases hu with rfl | rfl <;> rfl
theorem scells_len (L : List SpanV) : (scells L).length = L.length * 2 := flat_len SpanV.enc 2 span_len L
theorem scells_append (A B : List SpanV) : scells (A ++ B) = scells A ++ scells B := by simp [scells]
theorem scells_snoc (A : List SpanV) (s : SpanV) : scells (A ++ [s]) = scells A ++ s.enc := by simp [scells]
theorem filter_succ {L : List SpanV} {j : Nat} {s : SpanV} (h : L[j]? = some s) : (L.take (j + 1)).filter okS = (L.take j).filter okS ++ (if s.lo ≤ s.hi then [s] else []) := by
  rw [List.take_add_one, h, List.filter_append]
  congr 1
  by_cases hs : s.lo ≤ s.hi <;> simp [okS, hs]
theorem filter_take_len (L : List SpanV) (j : Nat) : ((L.take j).filter okS).length ≤ j := by
  have := List.length_filter_le okS (L.take j)
  simp at this; omega
theorem scells_set {A : List SpanV} {t y : SpanV} (h : y.lo = t.lo) : (scells (A ++ [t])).set (A.length * 2 + 1) (.int .u32 y.hi) = scells (A ++ [y]) := by
  rw [scells_snoc, scells_snoc, List.set_append_right _ _ (by rw [scells_len]; omega), scells_len, show A.length * 2 + 1 - A.length * 2 = 1 by omega]
  show scells A ++ [.int .u32 t.lo, .int .u32 y.hi] = scells A ++ [.int .u32 y.lo, .int .u32 y.hi]
  rw [h]

end Go.Proofs.YtpmoepipoafegaaGreatDoor

/-
  The document's sets: numbers put in their place, the cuts, the set that is made from cut to cut; numbers counted. No program in sight.
-/
namespace Go.Proofs.YtpmoepipoafegaaGreatDoor

/-- Rising, each once. -/
def Rising (l : List Int) : Prop := l.Pairwise (· < ·)
/-- A number's place: all before it are not greater, all from it on are. -/
theorem rising_put {l : List Int} (h : Rising l) {x : Int} {k : Nat} (h1 : ∀ y ∈ l.take k, y < x) (h2 : ∀ y ∈ l.drop k, x < y) :
    Rising (l.take k ++ x :: l.drop k) ∧ ∀ y, y ∈ l.take k ++ x :: l.drop k ↔ y ∈ l ∨ y = x := by
  constructor
  · unfold Rising at *
    rw [← List.take_append_drop k l, List.pairwise_append] at h
    refine List.pairwise_append.2 ⟨h.1, List.pairwise_cons.2 ⟨h2, h.2.1⟩, fun a ha b hb => ?_⟩
    rcases List.mem_cons.1 hb with rfl | hb
    · exact h1 a ha
    · exact h.2.2 a ha b hb
  · intro y
    have : y ∈ l ↔ y ∈ l.take k ∨ y ∈ l.drop k := by
      rw [← List.mem_append, List.take_append_drop]
    rw [this, List.mem_append, List.mem_cons]
    constructor
    · rintro (h | rfl | h)
      · exact .inl (.inl h)
      · exact .inr rfl
      · exact .inl (.inr h)
    · rintro ((h | h) | rfl)
      · exact .inl h
      · exact .inr (.inr h)
      · exact .inr (.inl rfl)
def isMark (most : Int) (s : SpanV) (y : Int) : Prop := s.lo ≤ s.hi ∧ (y = s.lo ∨ y = s.hi + 1) ∧ y ≤ most
/-- The cuts of sets: 0, and each mark. -/
def CutsOf (most : Int) (S : List SpanV) (C : List Int) : Prop := Rising C ∧ (∀ y ∈ C, 0 ≤ y ∧ y < 4294967296) ∧ ∀ y, y ∈ C ↔ y = 0 ∨ ∃ s ∈ S, isMark most s y
theorem CutsOf.head {most : Int} {S : List SpanV} {C : List Int} (h : CutsOf most S C) : ∃ r, C = 0 :: r := by
  have h0 : (0 : Int) ∈ C := (h.2.2 0).2 (.inl rfl)
  cases C with
  | nil => simp at h0
  | cons c r =>
    refine ⟨r, ?_⟩
    have hc := (h.2.1 c (List.mem_cons_self ..)).1
    rcases List.mem_cons.1 h0 with rfl | h0
    · rfl
    · have := (List.pairwise_cons.1 h.1).1 0 h0
      omega
/-- The end of the part that begins at the i-th cut. -/
def cutEnd (most : Int) (C : List Int) (i : Nat) : Int := match C[i]? with | some y => y | none => most + 1
theorem CutsOf.le {most : Int} (hm : 0 ≤ most) {S : List SpanV} {C : List Int} (h : CutsOf most S C) {y : Int} (hy : y ∈ C) : y ≤ most := by
  rcases (h.2.2 y).1 hy with rfl | ⟨s, _, hs⟩
  · exact hm
  · exact hs.2.2
theorem CutsOf.lt_end {most : Int} (hm : 0 ≤ most) {S : List SpanV} {C : List Int} (h : CutsOf most S C) {i : Nat} {c : Int} (hc : C[i]? = some c) : c < cutEnd most C (i + 1) := by
  unfold cutEnd
  cases hn : C[i + 1]? with
  | none => have := h.le hm (List.mem_of_getElem? hc); show c < most + 1; omega
  | some y =>
    obtain ⟨hi, e⟩ := List.getElem?_eq_some_iff.1 hc
    obtain ⟨hi2, e2⟩ := List.getElem?_eq_some_iff.1 hn
    have := List.pairwise_iff_getElem.1 h.1 i (i + 1) hi hi2 (by omega)
    show c < y
    omega
theorem CutsOf.none_between {most : Int} {S : List SpanV} {C : List Int} (h : CutsOf most S C) {i : Nat} {c y : Int} (hc : C[i]? = some c) (h1 : c < y) (h2 : y < cutEnd most C (i + 1)) : y ∉ C := by
  intro hy
  obtain ⟨j, hj, e⟩ := List.getElem_of_mem hy
  obtain ⟨hi, ei⟩ := List.getElem?_eq_some_iff.1 hc
  have hij : i < j := by
    rcases Nat.lt_trichotomy i j with h' | h' | h'
    · exact h'
    · subst h'; omega
    · have := List.pairwise_iff_getElem.1 h.1 j i hj hi h'; omega
  unfold cutEnd at h2
  have hn : C[i + 1]? = some C[i + 1] := List.getElem?_eq_getElem (by omega)
  rw [hn] at h2
  change y < C[i + 1] at h2
  rcases Nat.eq_or_lt_of_le (show i + 1 ≤ j from hij) with h' | h'
  · subst h'; omega
  · have := List.pairwise_iff_getElem.1 h.1 (i + 1) j (by omega) hj h'; omega
/-- From one cut to the next nothing begins and nothing ends. -/
theorem CutsOf.same {most : Int} (hm : 0 ≤ most) {S : List SpanV} {C : List Int} (h : CutsOf most S C) {L : List SpanV} (hL : ∀ s ∈ L, s ∈ S) {i : Nat} {c x : Int} (hc : C[i]? = some c) (h1 : c ≤ x) (h2 : x < cutEnd most C (i + 1)) :
    hasB L x = hasB L c := by
  have hxm : x ≤ most := by
    unfold cutEnd at h2
    cases hn : C[i + 1]? with
    | none => rw [hn] at h2; change x < most + 1 at h2; omega
    | some y => rw [hn] at h2; change x < y at h2; have := h.le hm (List.mem_of_getElem? hn); omega
  have key : ∀ s ∈ L, s.inB x = s.inB c := by
    intro s hs
    have n1 : s.lo ≤ s.hi → c < s.lo → x < s.lo := by
      intro hv hlo
      rcases Int.lt_or_le x s.lo with h' | h'
      · exact h'
      · exact absurd ((h.2.2 s.lo).2 (.inr ⟨s, hL s hs, hv, .inl rfl, by omega⟩)) (h.none_between hc hlo (by omega))
    have n2 : s.lo ≤ s.hi → c ≤ s.hi → x ≤ s.hi := by
      intro hv hhi
      rcases Int.lt_or_le s.hi x with h' | h'
      · exact absurd ((h.2.2 (s.hi + 1)).2 (.inr ⟨s, hL s hs, hv, .inr rfl, by omega⟩)) (h.none_between hc (by omega) (by omega))
      · exact h'
    rw [Bool.eq_iff_iff, inB_iff, inB_iff]
    rcases Int.lt_or_le s.hi s.lo with hv | hv
    · omega
    · have := n1 hv; have := n2 hv; omega
  have : ∀ M : List SpanV, (∀ s ∈ M, s.inB x = s.inB c) → hasB M x = hasB M c := by
    intro M
    induction M with
    | nil => intro _; rfl
    | cons s M ih =>
      intro hM
      have e1 := hM s (List.mem_cons_self ..)
      have e2 := ih (fun s hs => hM s (List.mem_cons_of_mem _ hs))
      simp only [hasB, List.any_cons] at *
      rw [e1, e2]
  exact this L key
/-- Is a number in what is made? -/
def soB (how : Int) (a b : List SpanV) (x : Int) : Bool :=
  if how = 1 then hasB a x || hasB b x else if how = 2 then hasB a x && hasB b x else if how = 3 then hasB a x && !hasB b x else !hasB a x
theorem CutsOf.so {most : Int} (hm : 0 ≤ most) {a b : List SpanV} {C : List Int} (h : CutsOf most (a ++ b) C) (how : Int) {i : Nat} {c x : Int} (hc : C[i]? = some c) (h1 : c ≤ x) (h2 : x < cutEnd most C (i + 1)) :
    soB how a b x = soB how a b c := by
  unfold soB
  rw [h.same hm (fun s hs => List.mem_append_left _ hs) hc h1 h2, h.same hm (L := b) (fun s hs => List.mem_append_right _ hs) hc h1 h2]
def soP (how most : Int) (a b : List SpanV) (x : Int) : Bool := decide (0 ≤ x) && decide (x ≤ most) && soB how a b x
/-- What has been made up to the i-th cut. -/
def MadeTo (how most : Int) (a b : List SpanV) (C : List Int) (i : Nat) (O : List SpanV) : Prop :=
  NF O ∧ (∀ t ∈ O, t.hi < cutEnd most C i) ∧ ∀ x, hasB O x = (decide (0 ≤ x) && decide (x < cutEnd most C i) && soB how a b x)
theorem MadeTo.zero {how most : Int} {a b : List SpanV} {C : List Int} (h : CutsOf most (a ++ b) C) : MadeTo how most a b C 0 [] := by
  obtain ⟨r, rfl⟩ := h.head
  refine ⟨trivial, fun t ht => by simp at ht, fun x => ?_⟩
  rw [hasB_nil]
  simp [cutEnd]
  omega
theorem MadeTo.skip {how most : Int} (hm : 0 ≤ most) {a b : List SpanV} {C : List Int} (h : CutsOf most (a ++ b) C) {i : Nat} {c : Int} (hc : C[i]? = some c) {O : List SpanV} (hO : MadeTo how most a b C i O) (hs : soB how a b c = false) : MadeTo how most a b C (i + 1) O := by
  obtain ⟨h1, h2, h3⟩ := hO
  have hlt := h.lt_end hm hc
  have e0 : cutEnd most C i = c := by unfold cutEnd; rw [hc]
  rw [e0] at h2 h3
  refine ⟨h1, fun t ht => by have := h2 t ht; omega, fun x => ?_⟩
  rw [h3]
  rcases Int.lt_or_le x c with hx | hx
  · have : x < cutEnd most C (i + 1) := by omega
    simp [hx, this]
  · rcases Int.lt_or_le x (cutEnd most C (i + 1)) with hx2 | hx2
    · rw [h.so hm how hc hx hx2, hs]; simp
    · have e1 : ¬ x < c := by omega
      have e2 : ¬ x < cutEnd most C (i + 1) := by omega
      simp [e1, e2]
theorem made_mem {how most : Int} (hm : 0 ≤ most) {a b : List SpanV} {C : List Int} (h : CutsOf most (a ++ b) C) {i : Nat} {c : Int} (hc : C[i]? = some c) (hs : soB how a b c = true) (hc0 : 0 ≤ c) (x : Int) :
    ((decide (0 ≤ x) && decide (x < c) && soB how a b x) || (decide (c ≤ x) && decide (x ≤ cutEnd most C (i + 1) - 1))) = (decide (0 ≤ x) && decide (x < cutEnd most C (i + 1)) && soB how a b x) := by
  have hlt := h.lt_end hm hc
  rcases Int.lt_or_le x c with hx | hx
  · have h1 : x < cutEnd most C (i + 1) := by omega
    have h2 : ¬ c ≤ x := by omega
    simp [hx, h1, h2]
  · have h2 : ¬ x < c := by omega
    rcases Int.lt_or_le x (cutEnd most C (i + 1)) with hx2 | hx2
    · have h3 : x ≤ cutEnd most C (i + 1) - 1 := by omega
      have h4 : 0 ≤ x := by omega
      rw [h.so hm how hc hx hx2, hs]
      simp [h2, hx, h3, hx2, h4]
    · have h3 : ¬ x ≤ cutEnd most C (i + 1) - 1 := by omega
      have h4 : ¬ x < cutEnd most C (i + 1) := by omega
      simp [h2, h3, h4]
theorem MadeTo.new {how most : Int} (hm : 0 ≤ most) {a b : List SpanV} {C : List Int} (h : CutsOf most (a ++ b) C) {i : Nat} {c : Int} (hc : C[i]? = some c) {O : List SpanV} (hO : MadeTo how most a b C i O) (hs : soB how a b c = true)
    (s : SpanV) (e1 : s.lo = c) (e2 : s.hi = cutEnd most C (i + 1) - 1) (hn : ∀ t ∈ O, t.hi + 1 ≠ c) : MadeTo how most a b C (i + 1) (O ++ [s]) := by
  obtain ⟨h1, h2, h3⟩ := hO
  have hlt := h.lt_end hm hc
  have hc0 := (h.2.1 c (List.mem_of_getElem? hc)).1
  have e0 : cutEnd most C i = c := by unfold cutEnd; rw [hc]
  rw [e0] at h2 h3
  refine ⟨NF.snoc.2 ⟨h1, by omega, fun t ht => by have := h2 t ht; have := hn t ht; omega⟩, fun t ht => ?_, fun x => ?_⟩
  · rcases List.mem_append.1 ht with ht | ht
    · have := h2 t ht; omega
    · obtain rfl := List.mem_singleton.1 ht; omega
  · rw [hasB_append, hasB_one, h3]
    have e : s.inB x = (decide (c ≤ x) && decide (x ≤ cutEnd most C (i + 1) - 1)) := by unfold SpanV.inB; rw [e1, e2]
    rw [e]
    exact made_mem hm h hc hs hc0 x
theorem MadeTo.more {how most : Int} (hm : 0 ≤ most) {a b : List SpanV} {C : List Int} (h : CutsOf most (a ++ b) C) {i : Nat} {c : Int} (hc : C[i]? = some c) {A : List SpanV} {t : SpanV} (hO : MadeTo how most a b C i (A ++ [t])) (hs : soB how a b c = true)
    (s : SpanV) (e1 : s.lo = t.lo) (e2 : s.hi = cutEnd most C (i + 1) - 1) (hn : t.hi + 1 = c) : MadeTo how most a b C (i + 1) (A ++ [s]) := by
  obtain ⟨h1, h2, h3⟩ := hO
  have hlt := h.lt_end hm hc
  have hc0 := (h.2.1 c (List.mem_of_getElem? hc)).1
  have e0 : cutEnd most C i = c := by unfold cutEnd; rw [hc]
  rw [e0] at h2 h3
  obtain ⟨k1, k2, k3⟩ := NF.snoc.1 h1
  refine ⟨NF.snoc.2 ⟨k1, by omega, fun u hu => by have := k3 u hu; omega⟩, fun u hu => ?_, fun x => ?_⟩
  · rcases List.mem_append.1 hu with hu | hu
    · have := h2 u (List.mem_append_left _ hu); omega
    · obtain rfl := List.mem_singleton.1 hu; omega
  · rw [← made_mem hm h hc hs hc0 x, ← h3, hasB_append, hasB_append, hasB_one, hasB_one, Bool.or_assoc]
    congr 1
    unfold SpanV.inB
    rw [e1, e2, Bool.eq_iff_iff]
    simp
    omega
theorem MadeTo.last {how most : Int} {a b : List SpanV} {C : List Int} {O : List SpanV} (hO : MadeTo how most a b C C.length O) : O = theSet (soP how most a b) := by
  obtain ⟨h1, _, h3⟩ := hO
  have e0 : cutEnd most C C.length = most + 1 := by unfold cutEnd; simp
  rw [e0] at h3
  symm
  refine theSet_eq h1 (fun x => ?_)
  rw [h3]
  unfold soP
  congr 2
  rw [Bool.eq_iff_iff]; simp; omega

/-- How many numbers there are. -/
def cnt (F : List SpanV) : Int := (F.map fun s => s.hi - s.lo + 1).sum
theorem cnt_append (A B : List SpanV) : cnt (A ++ B) = cnt A + cnt B := by simp [cnt]
theorem cnt_succ {F : List SpanV} {k : Nat} {s : SpanV} (h : F[k]? = some s) : cnt (F.take (k + 1)) = cnt (F.take k) + (s.hi - s.lo + 1) := by
  rw [List.take_add_one, h, cnt_append]; simp [cnt]
/-- The members below n. -/
def cntP (P : Int → Bool) (n : Nat) : Int := ((List.range n).countP fun x : Nat => P x : Nat)
theorem cntP_succ (P : Int → Bool) (n : Nat) : cntP P (n + 1) = cntP P n + (if P n then 1 else 0) := by
  unfold cntP
  rw [List.range_succ, List.countP_append]
  simp [List.countP_cons]
  split <;> simp
theorem cntP_one (s : SpanV) (hs : s.lo ≤ s.hi) : ∀ n : Nat, cntP s.inB n = if (n : Int) ≤ s.lo then 0 else if (n : Int) ≤ s.hi then n - s.lo else s.hi - s.lo + 1 := by
  intro n
  have := s.hlo
  induction n with
  | zero => simp [cntP]; omega
  | succ n ih =>
    rw [cntP_succ, ih]
    have e : (s.inB n = true) ↔ s.lo ≤ n ∧ (n : Int) ≤ s.hi := inB_iff
    by_cases h : s.inB n = true
    · rw [if_pos h]
      have := e.1 h
      repeat' split
      all_goals omega
    · rw [if_neg h]
      have h' : ¬ (s.lo ≤ n ∧ (n : Int) ≤ s.hi) := fun x => h (e.2 x)
      repeat' split
      all_goals omega
theorem cntP_add {P Q R : Int → Bool} (n : Nat) (h : ∀ x : Nat, x < n → R x = (P x || Q x) ∧ ¬ (P x = true ∧ Q x = true)) : cntP R n = cntP P n + cntP Q n := by
  induction n with
  | zero => simp [cntP]
  | succ n ih =>
    rw [cntP_succ, cntP_succ, cntP_succ, ih (fun x hx => h x (by omega))]
    obtain ⟨h1, h2⟩ := h n (by omega)
    rw [h1]
    cases hp : P n <;> cases hq : Q n <;> simp_all <;> omega
theorem cntP_le (P : Int → Bool) (n : Nat) : 0 ≤ cntP P n ∧ cntP P n ≤ n := by
  unfold cntP
  have := List.countP_le_length (p := fun x : Nat => P x) (l := List.range n)
  simp at this
  omega
theorem cntP_nil (n : Nat) : cntP (hasB []) n = 0 := by
  unfold cntP
  have : (List.range n).countP (fun x : Nat => hasB [] x) = 0 := by
    rw [List.countP_eq_zero]; intro x _; simp [hasB]
  rw [this]; rfl
theorem cnt_members {n : Nat} (hn : (n : Int) = 4294967296) : ∀ {F : List SpanV}, NF F → cnt F = cntP (hasB F) n
  | [], _ => (cntP_nil n).symm
  | s :: r, h => by
    have hs := s.hhi
    have h1 := cntP_one s h.1 n
    rw [if_neg (by have := h.1; omega), if_neg (by omega)] at h1
    have e : cnt (s :: r) = (s.hi - s.lo + 1) + cnt r := by simp [cnt]
    rw [e, cnt_members hn h.2.2, ← h1]
    symm
    refine cntP_add _ (fun x _ => ⟨rfl, ?_⟩)
    rintro ⟨h3, h4⟩
    obtain ⟨u, hu, h5, h6⟩ := hasB_iff.1 h4
    have := inB_iff.1 h3
    have := h.2.1 u hu
    omega
theorem big32 : ∃ n : Nat, (n : Int) = 4294967296 := ⟨4294967296, rfl⟩
theorem cnt_range {F : List SpanV} (h : NF F) : 0 ≤ cnt F ∧ cnt F ≤ 4294967296 := by
  obtain ⟨n, hn⟩ := big32
  rw [cnt_members hn h, ← hn]; exact cntP_le _ _
theorem cnt_take_le {F : List SpanV} (h : NF F) (k : Nat) : 0 ≤ cnt (F.take k) ∧ cnt (F.take k) ≤ 4294967296 := cnt_range (h.take k)

end Go.Proofs.YtpmoepipoafegaaGreatDoor

/-
  The walks of spans.Has, and of the document's Has and so.
-/
namespace Go.Proofs.YtpmoepipoafegaaGreatDoor
open Go Go.RowKit Go.Lib Go.Sort

theorem hasB_hit {L : List SpanV} {j : Nat} {s : SpanV} {x : Int} (h : L[j]? = some s) (h1 : s.lo ≤ x) (h2 : x ≤ s.hi) : hasB L x = true := hasB_iff.2 ⟨s, List.mem_of_getElem? h, h1, h2⟩

end Go.Proofs.YtpmoepipoafegaaGreatDoor

/-
  Small general lemmas, the fourth text: an append tells whether its row lies where it lay; no program in sight.
-/
namespace Go.Proofs.YtpmoepipoafegaaGreatDoor
open Go Go.RowKit

theorem grown_none {w w' : World} (h : w.grownBy w' none) (r : Option Nat) : w.grownBy w' r := ⟨h.os, h.tape, h.output, h.size, fun i hi _ => h.block i hi (by simp)⟩
/-- The row lies where it lay, or in a block of its own laid since. -/
def Moved (v v' : Value) (k : Nat) : Prop := v'.ownBlock = v.ownBlock ∨ ∀ g, v'.ownBlock = some g → k ≤ g
theorem wpList_push2 {P : Program} {ops : Array Oper} {rest : List Oper} {o : Oper} {a : Act} {Q : Exit → Act → World → Prop} (hgd : o.guard = none) (s x : Operand) (t : TypeId)
    (ho : o.op = .call { callee := .builtin .append, args := #[s, x], argTypes := #[t, t] })
    (e : TypeId) (i : TypeInfo) (z : Value) (size bytes : Nat) (ht : P.underlying t = some (.slice e)) (hi : P.info? e = some i) (hz : i.zero = some z)
    (hsize : i.size = size) (hby : i.bytes = bytes) (hzs : z.cells.size = size) (hsz : 0 < size) (hb64 : bytes ≤ 64)
    {w0 : World} {base n : Nat} {v : Value} {xs : List Value} (es : List Value) (hs : a.eval s = v) {g0 : Nat} (hx : a.eval x = .slice (some ⟨g0, 0, none⟩) 1 1) (hg0 : g0 = w0.heap.size)
    (hown : w0.ownsRow base e size v n xs) (hes : es.length = size) (h1 : ∀ u ∈ es, u.oneCell' = true) (hn : n ≤ 1099511627776) (hbase : base ≤ w0.heap.size)
    (h : ∀ v' w', w'.ownsRow base e size v' (n + 1) (xs ++ es) → w0.grownBy w' v.ownBlock → Moved v v' w0.heap.size → wpList P ops Q rest (a.put o.dst v') w') : wpList P ops Q (o :: rest) a (w0.alloc (.cells es.toArray e)) := by
  subst hg0
  have hb2 : (n + 1) * bytes ≤ 140737488355328 :=
    calc (n + 1) * bytes ≤ (1099511627776 + 1) * 64 := Nat.mul_le_mul (by omega) hb64
      _ ≤ 140737488355328 := by decide
  have hownA := hown.alloc (.cells es.toArray e)
  have hgA : w0.grownBy (w0.alloc (.cells es.toArray e)) none := World.grownBy_alloc w0 _ none
  have hnew := cells_new w0 es e
  rcases hown.2 with ⟨rfl, rfl⟩ | ⟨g, cap, cur, rfl, hbg, hg, hnc, hcm, hcs, htake⟩
  · obtain rfl : xs = [] := List.eq_nil_of_length_eq_zero (by have := hown.1; omega)
    refine wpList_append_grows _ hgd s x t ho e i z size bytes ht hi hz hsize hby hzs hsz none 0 0 [] hs (fun _ => ⟨rfl, rfl⟩) (by simp) (fun b hb => by cases hb) ⟨w0.heap.size, 0, none⟩ 1 1 es hx (by omega) hnew h1 (by omega) (by unfold maxLen; omega) hb2 ?_
    intro v' w' h2 h3
    refine h v' w' (owns_base h2 (by simp; omega)) (grown_none (hgA.trans h3) _) (.inr fun g hg => ?_)
    have := (h2.lt g hg).1
    simp at this; omega
  · by_cases hroom : n + 1 ≤ cap
    · obtain ⟨w', hr, h2, h3⟩ := run_append_fits (P := P) _ base t o.type e i size ht hi hsize g n cap xs hownA ⟨w0.heap.size, 0, none⟩ 1 1 es (by omega) hnew h1 hroom
      refine wpList_plain hgd fun K hK => ?_
      unfold Oper.wp execOp
      simp only [ho, resolve, invoke, builtin, Sem.run_bind, Sem.run_pure, Result.andThen_ok, List.map_toArray, List.map_cons, List.map_nil, hs, hx, hr]
      exact hK _ _ (h _ w' h2 ((grown_none hgA _).trans h3) (.inl rfl))
    · refine wpList_append_grows _ hgd s x t ho e i z size bytes ht hi hz hsize hby hzs hsz (some ⟨g, 0, none⟩) n cap xs hs (fun hh => by cases hh) hown.1 (fun b hb j u hu => ?_) ⟨w0.heap.size, 0, none⟩ 1 1 es hx (by omega) hnew h1 (by omega) (by unfold maxLen; omega) hb2 ?_
      · injection hb with hb
        subst hb
        exact hownA.cells rfl j u hu
      · intro v' w' h2 h3
        refine h v' w' (owns_base h2 (by simp; omega)) (grown_none (hgA.trans h3) _) (.inr fun g hg => ?_)
        have := (h2.lt g hg).1
        simp at this; omega
theorem grown_setRow (w : World) (g : Nat) (cs : Array Value) : w.grownBy (w.setRow g cs) (some g) :=
  ⟨rfl, rfl, rfl, by simp, fun k _ hk => setRow_other w g k _ (fun e => hk (by simp [e]))⟩
/-- copy, as one step of a region that draws its order, into a known row: no other block turns. -/
theorem step_copy_grown {P : Program} {ops : Array Oper} {o : Oper} {a : Act} {w : World} {K : Act → World → Prop} {Q : Exit → Act → World → Prop} {E : Prop} (hgd : o.guard = none) (d s : Operand) (dT sT : TypeId)
    (ho : o.op = .call { callee := .builtin .copy, args := #[d, s], argTypes := #[dT, sT] }) (elem : TypeId) (hu : P.underlying dT = some (.slice elem)) (hsz : (P.info? elem).map (·.size) = some 1)
    (dp sp : Option Addr) (dLen dCap sLen sCap : Nat) (hd : a.eval d = .slice dp dLen dCap) (hs : a.eval s = .slice sp sLen sCap)
    (g off : Nat) (cur : List Value) (t : TypeId) (hg : w.heap[g]? = some (.cells cur.toArray t (0, 0))) (cs : List Value) (hn : cs.length = Nat.min sLen dLen)
    (hpos : 0 < cs.length → dp = some ⟨g, off, none⟩ ∧ ∃ ad, sp = some ad ∧ ∀ j v, cs[j]? = some v → w.cell? (ad.add j) = some v)
    (hfit : off + cs.length ≤ cur.length) (h1 : ∀ v ∈ cs, v.oneCell' = true)
    (h : ∀ w', Hid (w'.heap[g]? = some (.cells (splice cur off cs).toArray t (0, 0))) → w.grownBy w' (some g) → K (a.put o.dst (goInt cs.length)) w') :
    if Region.wanted o (yielded ops a.tmps) = true then Oper.wp P o a w K Q else E := by
  rw [if_pos (by simp [Region.wanted, hgd])]
  unfold Oper.wp
  rcases Nat.eq_zero_or_pos cs.length with h0 | h0
  · obtain rfl : cs = [] := List.eq_nil_of_length_eq_zero h0
    have hr := run_copy_none (P := P) w dT sT o.type elem dp sp dLen dCap sLen sCap hu hsz (by simpa using hn.symm)
    simp [execOp, ho, resolve, invoke, builtin, hd, hs, hr, Result.andThen]
    exact h w (by show _ = _; simpa [splice] using hg) (World.grownBy.refl w _)
  · obtain ⟨rfl, ad, rfl, hsrc⟩ := hpos h0
    have hr := run_copy_row (P := P) w dT sT o.type elem g off dLen dCap ad sLen sCap cur.toArray t cs hu hsz hg hn hsrc (by simpa using hfit) h1
    simp [execOp, ho, resolve, invoke, builtin, hd, hs, hr, Result.andThen]
    exact h _ (by show _ = _; simpa [splice] using setRow_heap w g _ _ t _ hg) (grown_setRow w g _)
/-- Behind an append that may have moved the row, and writes into it. -/
theorem grown_moved {v v' : Value} {w w1 w2 : World} {g : Nat} (h : w.grownBy w1 v.ownBlock) (hm : Moved v v' w.heap.size) (hv : v'.ownBlock = some g) (h2 : w1.grownBy w2 (some g)) : w.grownBy w2 v.ownBlock := by
  refine ⟨h2.os.trans h.os, h2.tape.trans h.tape, h2.output.trans h.output, Nat.le_trans h.size h2.size, fun i hi hne => ?_⟩
  refine (h2.block i (Nat.lt_of_lt_of_le hi h.size) (fun hh => ?_)).trans (h.block i hi hne)
  injection hh with hh
  rcases hm with hm | hm
  · exact hne (by rw [← hm, hv, hh])
  · have := hm g hv; omega
/-- The blocks from lo on below hi are as they were. -/
def Seg (lo hi : Nat) (a w : World) : Prop := ∀ b, lo ≤ b → b < hi → w.heap[b]? = a.heap[b]?
/-- The row lies below lo or from hi on. -/
def Off (v : Value) (lo hi : Nat) : Prop := ∀ g, v.ownBlock = some g → g < lo ∨ hi ≤ g
theorem Off.moved {v v' : Value} {lo hi k : Nat} (h : Off v lo hi) (hm : Moved v v' k) (hk : hi ≤ k) : Off v' lo hi := by
  intro g hg
  rcases hm with hm | hm
  · exact h g (hm ▸ hg)
  · exact .inr (Nat.le_trans hk (hm g hg))
theorem Seg.refl (lo hi : Nat) (a : World) : Seg lo hi a a := fun _ _ _ => rfl
theorem Seg.grown {v : Value} {lo hi : Nat} {a w w' : World} (h : Seg lo hi a w) (hg : w.grownBy w' v.ownBlock) (ho : Off v lo hi) (hs : hi ≤ w.heap.size) : Seg lo hi a w' := by
  intro b h1 h2
  refine (hg.block b (by omega) (fun hb => ?_)).trans (h b h1 h2)
  rcases ho b hb.symm with h3 | h3 <;> omega
theorem Seg.below {lo hi : Nat} {a w w' : World} (h : Seg lo hi a w) (hb : Below w.heap.size w w') (hs : hi ≤ w.heap.size) : Seg lo hi a w' :=
  fun b h1 h2 => (hb.block b (by omega)).trans (h b h1 h2)
theorem Seg.alloc {lo hi : Nat} {a w : World} (h : Seg lo hi a w) (hs : hi ≤ w.heap.size) (o : Obj) : Seg lo hi a (w.alloc o) := h.below (below1 w o) hs

end Go.Proofs.YtpmoepipoafegaaGreatDoor

/-
  The walk of the document's put: a number put in its place, once.
-/
namespace Go.Proofs.YtpmoepipoafegaaGreatDoor
open Go Go.RowKit Go.Lib Go.Sort

theorem Tryz.infoU32s : (Tryz.prog.info? 22).map (fun i => (i.zero, i.size, i.bytes)) = some (some (.int .u32 0), 1, 4) := by kernel_rfl
def encU (l : List Int) : List Value := l.map (Value.int .u32 ·)
theorem encU_len (l : List Int) : (encU l).length = l.length := by simp [encU]
theorem encU_at {l : List Int} {i : Nat} {x : Int} (h : l[i]? = some x) : (encU l)[i]? = some (.int .u32 x) := by simp [encU, h]
theorem encU_append (a b : List Int) : encU (a ++ b) = encU a ++ encU b := by simp [encU]
theorem encU_one (l : List Int) : ∀ u ∈ encU l, u.oneCell' = true := by
  intro u hu
  obtain ⟨x, _, rfl⟩ := List.mem_map.1 hu
  rfl
theorem below_drew7 {B : Nat} {a w : World} (h : Below B a w) : Below B a w.drew := ⟨h.os, h.tape, h.output, h.size, h.block⟩
theorem put_cells {l : List Int} {k : Nat} (hk : k ≤ l.length) {x : Int} {cur : List Value} {z : Value} (h : cur.take ((l.length + 1) * 1) = encU l ++ [z]) :
    ((splice cur (k + 1) (encU (l.drop k))).take (l.length + 1)).set k (.int .u32 x) = encU (l.take k ++ x :: l.drop k) := by
  rw [Nat.mul_one] at h
  obtain ⟨v, hv⟩ : ∃ v, cur.take (k + 1) = encU (l.take k) ++ [v] := by
    have e : cur.take (k + 1) = (encU l ++ [z]).take (k + 1) := by
      rw [← h, List.take_take]; congr 1; omega
    obtain ⟨v, hv⟩ : ∃ v, (encU l ++ [z])[k]? = some v := ⟨_, List.getElem?_eq_getElem (by simp [encU]; omega)⟩
    refine ⟨v, ?_⟩
    rw [e, List.take_add_one, hv, List.take_append_of_le_length (by rw [encU_len]; exact hk)]
    simp [encU, List.map_take]
  have hl : (encU (l.take k) ++ [v]).length = k + 1 := by simp [encU]; omega
  unfold splice
  rw [hv, ← List.append_assoc, List.take_append_of_le_length (by simp [encU]; omega), List.take_of_length_le (by simp [encU]; omega), encU_append]
  rw [List.append_assoc, List.set_append_right _ _ (by simp [encU]; omega)]
  have e0 : k - (encU (l.take k)).length = 0 := by simp [encU]; omega
  rw [e0]
  rfl
def PutRes (V : Value) (l : List Int) (x most : Int) (base : Nat) (w : World) (e : Ending) (w' : World) : Prop :=
  ∃ (v : Value) (m : List Int), e = .returned v ∧ w'.ownsRow base 22 1 v m.length (encU m) ∧ Rising m ∧ (∀ y, y ∈ m ↔ y ∈ l ∨ (y = x ∧ x ≤ most)) ∧ m.length ≤ l.length + 1 ∧ w.grownBy w' V.ownBlock

end Go.Proofs.YtpmoepipoafegaaGreatDoor

/-
  The walk of the document's cuts.
-/
namespace Go.Proofs.YtpmoepipoafegaaGreatDoor
open Go Go.RowKit Go.Lib Go.Sort

/-- Sets in memory: a slice of slices of spans, all below B. -/
structure SetV where
  v : Value
  L : List SpanV
instance : Inhabited SetV := ⟨⟨.slice none 0 0, []⟩⟩
def svals (S : List SetV) : List Value := S.map (·.v)
def SetsAt (w : World) (B : Nat) (v : Value) (S : List SetV) : Prop :=
  Rd w B 1 v S.length (svals S) ∧ ∀ x ∈ S, Rd w B 2 x.v x.L.length (scells x.L)
theorem SetsAt.below {w w' : World} {B : Nat} {v : Value} {S : List SetV} (h : SetsAt w B v S) (hb : Below B w w') : SetsAt w' B v S := ⟨h.1.below hb, fun x hx => (h.2 x hx).below hb⟩
theorem SetsAt.mono {w : World} {B B' : Nat} {v : Value} {S : List SetV} (h : SetsAt w B v S) (hb : B ≤ B') : SetsAt w B' v S := ⟨h.1.mono hb, fun x hx => (h.2 x hx).mono hb⟩
def allS (S : List SetV) : List SpanV := S.flatMap (·.L)
theorem allS_succ {S : List SetV} {i : Nat} {x : SetV} (h : S[i]? = some x) : allS (S.take (i + 1)) = allS (S.take i) ++ x.L := by
  unfold allS
  rw [List.take_add_one, h, List.flatMap_append]
  simp
def CutsRes (most : Int) (S : List SpanV) (w : World) (e : Ending) (w' : World) : Prop :=
  ∃ v C, e = .returned v ∧ w'.ownsRow w.heap.size 22 1 v C.length (encU C) ∧ CutsOf most S C ∧ C.length ≤ 2 * S.length + 1 ∧ Below w.heap.size w w'
theorem CutsOf.zero (most : Int) : CutsOf most [] [0] := ⟨List.pairwise_singleton _ _, fun y hy => by simp at hy; omega, fun y => by simp⟩
theorem take_snoc {L : List SpanV} {k : Nat} {s : SpanV} (h : L[k]? = some s) : L.take (k + 1) = L.take k ++ [s] := by rw [List.take_add_one, h]; rfl
theorem CutsOf.skip {most : Int} {S : List SpanV} {C : List Int} (h : CutsOf most S C) {s : SpanV} (hs : ¬ s.lo ≤ s.hi) : CutsOf most (S ++ [s]) C := by
  refine ⟨h.1, h.2.1, fun y => (h.2.2 y).trans ⟨fun hh => hh.imp id (fun ⟨t, ht, hm⟩ => ⟨t, List.mem_append_left _ ht, hm⟩), fun hh => hh.imp id (fun ⟨t, ht, hm⟩ => ?_)⟩⟩
  rcases List.mem_append.1 ht with ht | ht
  · exact ⟨t, ht, hm⟩
  · obtain rfl := List.mem_singleton.1 ht
    exact absurd hm.1 hs
/-- Behind the two puts of a span. -/
theorem CutsOf.puts {most : Int} {S : List SpanV} {C C1 C2 : List Int} (h : CutsOf most S C) {s : SpanV} (hs : s.lo ≤ s.hi) (hm : most < 4294967296)
    (h1 : Rising C1 ∧ ∀ y, y ∈ C1 ↔ y ∈ C ∨ (y = s.lo ∧ s.lo ≤ most)) (h2 : Rising C2 ∧ ∀ y, y ∈ C2 ↔ y ∈ C1 ∨ (y = s.hi + 1 ∧ s.hi + 1 ≤ most)) : CutsOf most (S ++ [s]) C2 := by
  have hlo := s.hlo
  have hhi := s.hhi
  refine ⟨h2.1, fun y hy => ?_, fun y => ?_⟩
  · rcases (h2.2 y).1 hy with hy | ⟨rfl, _⟩
    · rcases (h1.2 y).1 hy with hy | ⟨rfl, _⟩
      · exact h.2.1 y hy
      · omega
    · omega
  · rw [h2.2, h1.2, h.2.2]
    constructor
    · rintro (((rfl | ⟨t, ht, hk⟩) | ⟨rfl, hk⟩) | ⟨rfl, hk⟩)
      · exact .inl rfl
      · exact .inr ⟨t, List.mem_append_left _ ht, hk⟩
      · exact .inr ⟨s, List.mem_append_right _ (List.mem_singleton.2 rfl), hs, .inl rfl, hk⟩
      · exact .inr ⟨s, List.mem_append_right _ (List.mem_singleton.2 rfl), hs, .inr rfl, hk⟩
    · rintro (rfl | ⟨t, ht, hk⟩)
      · exact .inl (.inl (.inl rfl))
      · rcases List.mem_append.1 ht with ht | ht
        · exact .inl (.inl (.inr ⟨t, ht, hk⟩))
        · obtain rfl := List.mem_singleton.1 ht
          rcases hk.2.1 with rfl | rfl
          · exact .inl (.inr ⟨rfl, hk.2.2⟩)
          · exact .inr ⟨rfl, hk.2.2⟩
theorem CutsOf.puts1 {most : Int} {S : List SpanV} {C C1 : List Int} (h : CutsOf most S C) {s : SpanV} (hs : s.lo ≤ s.hi) (hm : most < 4294967296)
    (h1 : Rising C1 ∧ ∀ y, y ∈ C1 ↔ y ∈ C ∨ (y = s.lo ∧ s.lo ≤ most)) (hn : ¬ s.hi < most) : CutsOf most (S ++ [s]) C1 :=
  h.puts hs hm h1 ⟨h1.1, fun y => ⟨.inl, fun hh => hh.elim id (fun hh => by omega)⟩⟩

end Go.Proofs.YtpmoepipoafegaaGreatDoor

/-
  The walk of the document's made, and of its five callers.
-/
namespace Go.Proofs.YtpmoepipoafegaaGreatDoor
open Go Go.RowKit Go.Lib Go.Sort

end Go.Proofs.YtpmoepipoafegaaGreatDoor

/-
  The walk of spans.And.
-/
namespace Go.Proofs.YtpmoepipoafegaaGreatDoor
open Go Go.RowKit Go.Lib Go.Sort

theorem meet1_yes {s t : SpanV} (h : max s.lo t.lo ≤ min s.hi t.hi) : ∃ x : SpanV, meet1 s t = [x] ∧ x.lo = max s.lo t.lo ∧ x.hi = min s.hi t.hi := by
  unfold meet1
  rw [if_pos h]
  exact ⟨_, rfl, rfl, rfl⟩
theorem meet1_no {s t : SpanV} (h : ¬ max s.lo t.lo ≤ min s.hi t.hi) : meet1 s t = [] := by
  unfold meet1
  rw [if_neg h]

end Go.Proofs.YtpmoepipoafegaaGreatDoor

/-
  The walks of spans.Not and spans.Less.
-/
namespace Go.Proofs.YtpmoepipoafegaaGreatDoor
open Go Go.RowKit Go.Lib Go.Sort

theorem lessP (L M : List SpanV) : theSet (fun x => hasB L x && hasB (theSet (notP 4294967295 M)) x) = theSet (fun x => hasB L x && !hasB M x) := by
  congr 1
  funext x
  have h := (notAll_ok (formOf_ok M).1 (most := 4294967295) (by omega)).2 x
  rw [theSet_not (by omega), h, notP_form]
  unfold notP
  cases hx : hasB L x with
  | false => rfl
  | true =>
    obtain ⟨s, _, h1, h2⟩ := hasB_iff.1 hx
    have := s.hlo
    have := s.hhi
    have e1 : 0 ≤ x := by omega
    have e2 : x ≤ 4294967295 := by omega
    simp [e1, e2]
theorem not_len {most : Int} (hm : 0 ≤ most ∧ most < 4294967296) (L : List SpanV) : (theSet (notP most L)).length ≤ L.length + 1 := by
  rw [theSet_not hm]
  unfold notAll
  have h1 := notTo_len most (formOf L) (formOf L).length
  have h2 := formOf_len L
  have h3 : (lastOf (natAt (formOf L)) most).length ≤ 1 := by unfold lastOf; split <;> simp
  rw [List.length_append]; omega

end Go.Proofs.YtpmoepipoafegaaGreatDoor

/-
  The walks of the document's Form, Or, And, Less and Not, and of Concat and Or of the program.
-/
namespace Go.Proofs.YtpmoepipoafegaaGreatDoor
open Go Go.RowKit Go.Lib Go.Sort

theorem hasB_range {L : List SpanV} {x : Int} (h : hasB L x = true) : 0 ≤ x ∧ x ≤ 4294967295 := by
  obtain ⟨s, _, h1, h2⟩ := hasB_iff.1 h
  have := s.hlo
  have := s.hhi
  omega
theorem soP_or (L M : List SpanV) : soP 1 4294967295 L M = fun x => hasB L x || hasB M x := by
  funext x
  have e : soP 1 4294967295 L M x = (decide (0 ≤ x) && decide (x ≤ 4294967295) && (hasB L x || hasB M x)) := rfl
  rw [e]
  cases h : (hasB L x || hasB M x) with
  | false => simp
  | true =>
    rcases Bool.or_eq_true_iff.1 h with h | h
    · have := hasB_range h; simp [this]
    · have := hasB_range h; simp [this]
theorem soP_and (L M : List SpanV) : soP 2 4294967295 L M = fun x => hasB L x && hasB M x := by
  funext x
  have e : soP 2 4294967295 L M x = (decide (0 ≤ x) && decide (x ≤ 4294967295) && (hasB L x && hasB M x)) := rfl
  rw [e]
  cases h : hasB L x with
  | false => simp
  | true => have := hasB_range h; simp [this]
theorem soP_less (L M : List SpanV) : soP 3 4294967295 L M = fun x => hasB L x && !hasB M x := by
  funext x
  have e : soP 3 4294967295 L M x = (decide (0 ≤ x) && decide (x ≤ 4294967295) && (hasB L x && !hasB M x)) := rfl
  rw [e]
  cases h : hasB L x with
  | false => simp
  | true => have := hasB_range h; simp [this]
theorem soP_not (most : Int) (L : List SpanV) : soP 4 most L [] = notP most L := rfl
theorem soP_form (L : List SpanV) : theSet (soP 1 4294967295 L []) = formOf L := by
  rw [soP_or]
  unfold formOf
  congr 1
  funext x
  rw [hasB_nil, Bool.or_false]
theorem rd_nil (w : World) (B k : Nat) : Rd w B k (.slice none 0 0) 0 [] := ⟨none, 0, rfl, by omega, by simp, fun h => absurd h (by omega)⟩

end Go.Proofs.YtpmoepipoafegaaGreatDoor

/-
  The text of a set: the program's and the document's.
-/
namespace Go.Proofs.YtpmoepipoafegaaGreatDoor
open Go Go.RowKit Go.Lib Go.Sort

theorem fmtInt_any (n : Int) (h0 : 0 ≤ n) (h1 : n < 4294967296) (w : World) (hE : Env w) :
    Calls Tryz.prog 31 #[.int .u64 n, .int .i64 10] w fun e w' => e = .returned (.string ⟨(Lib.decDigits n.toNat).toArray⟩) ∧ Below w.heap.size w w' := by
  obtain ⟨u, rfl⟩ := Int.eq_ofNat_of_zero_le h0
  exact fmtUint_any u (by omega) w hE
theorem tB_one {s : SpanV} (h : s.lo = s.hi) : tB s = ⟨(Lib.decDigits s.lo.toNat).toArray⟩ := by
  unfold tB SpanV.t
  rw [if_pos h]
theorem tB_two {s : SpanV} (h : s.lo ≠ s.hi) : tB s = ⟨(Lib.decDigits s.lo.toNat).toArray⟩ ++ (⟨#[45]⟩ ++ ⟨(Lib.decDigits s.hi.toNat).toArray⟩) := by
  apply byte_ext
  unfold tB SpanV.t
  rw [if_neg h]
  simp [ByteArray.data_append]
theorem dec_size {n : Int} (h : n < 4294967296) : (⟨(Lib.decDigits n.toNat).toArray⟩ : ByteArray).size ≤ 10 := by
  show (Lib.decDigits n.toNat).toArray.size ≤ 10
  have := dec32 (n := n.toNat) (by omega)
  simpa using this
theorem words_data (F : List SpanV) : (F.map tB).map (·.data.toList) = F.map SpanV.t := by
  rw [List.map_map]
  rfl
theorem take_tB {F : List SpanV} {j : Nat} {s : SpanV} (h : F[j]? = some s) : ((F.take (j + 1)).map tB).map Value.string = ((F.take j).map tB).map Value.string ++ [.string (tB s)] := by
  rw [List.take_add_one, h]
  simp
end Go.Proofs.YtpmoepipoafegaaGreatDoor

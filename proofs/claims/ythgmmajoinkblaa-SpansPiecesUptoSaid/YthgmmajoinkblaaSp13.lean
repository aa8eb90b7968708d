/-
  The walks of spans.Has, spans.Same, and of the law's large and awake.
-/
import Derived.Test.YthgmmajoinkblaaSp11
import Derived.Test.YthgmmajoinkblaaSp12
import Derived.Test.YthgmmajoinkblaaShelf2
import Derived.Shelf.SlicesQ.IndexFunc
namespace Go.Proofs.Ythgmmajoinkblaa
open Go Go.RowKit Go.Lib Go.Sort

set_option maxHeartbeats 1000000 in
theorem hasClos_any (s : SpanV) (x : Int) (B : Nat) (w : World) (hB : w.heap[B]? = some (.cells #[.int .u32 x] 23 (0, 0))) :
    Calls Try.prog 54 #[.agg #[.int .u32 s.lo, .int .u32 s.hi], .pointer (some ⟨B, 0, none⟩)] w fun e w' => e = .returned (.bool (s.inB x)) ∧ Below w.heap.size w w' := by
  have hlt := lt_of_block hB
  have hne : B ≠ w.heap.size := Nat.ne_of_lt hlt
  have e0 : w.cell? ⟨B, 0, none⟩ = some (.int .u32 x) := cell_of_one hB
  clear hB
  have hbw := below1 w (.cells #[.int .u32 s.lo, .int .u32 s.hi] 44)
  have HBW := Lib.hid hbw
  clear hbw
  have hin : s.inB x = (decide (s.lo ≤ x) && decide (x ≤ s.hi)) := rfl
  rw [hin]
  clear hin
  go_enter Try.func54, Try.ntmps54
  by_cases h1 : s.lo ≤ x
  · by_cases h2 : x ≤ s.hi
    · go_wp2
      go_ret
      exact ⟨ret_bool (by simp [h1, h2]), HBW.out⟩
    · go_wp2
      go_ret
      exact ⟨ret_bool (by simp; omega), HBW.out⟩
  · go_wp2
    go_ret
    exact ⟨ret_bool (by simp; omega), HBW.out⟩
theorem hasClos_pred (x : Int) (B : Nat) (w : World) (hB : w.heap[B]? = some (.cells #[.int .u32 x] 23 (0, 0))) : PredBelow Try.prog 54 #[.pointer (some ⟨B, 0, none⟩)] (fun s : SpanV => .agg s.enc.toArray) (fun s => s.inB x) w := fun W s hb =>
  (hasClos_any s x B W (blk_below hb hB)).mono fun _ _ ⟨he, hb'⟩ => ⟨he, hb.trans (hb'.mono hb.size)⟩

/-- slices.IndexFunc over spans, at any length. -/
theorem indexSpan_any (L : List SpanV) (v : Value) (p : SpanV → Bool) (g : Nat) (lb : Array Value) (w : World) (eg : ∀ args w, (callFunc g args).run Try.prog w = .ok (.enter g args) w)
    (hp : PredBelow Try.prog g lb (fun x : SpanV => .agg x.enc.toArray) p w) (h : Rd w w.heap.size 2 v L.length (scells L)) (hlen : L.length ≤ 9223372036854775807) :
    Calls Try.prog 69 #[v, .func (.func g) #[] lb] w fun e w' => e = .returned (.int .i64 (idxP p L)) ∧ Below w.heap.size w w' := by
  by_cases h0 : L.length = 0
  · obtain ⟨A, c, rfl, hc⟩ := h.form
    have e1 : L = [] := List.eq_nil_of_length_eq_zero h0
    subst e1
    clear hp h eg
    go_enter Try.func69, Try.ntmps69
    go_wp2
    refine wp_loop_rounds 1 ?_
    rw [rounds_succ]
    go_wp2
    go_ret
    exact ⟨rfl, Below.refl _ _⟩
  · obtain ⟨b, off, c, rfl, hc, hbB, hcell⟩ := h.pos (by omega)
    have := AnyQ.slices_IndexFunc Try.indexSpan 2 Try.isAgg44 Try.sizeOf44 SpanV.enc span_len p g lb eg b off L.length c L w hp (Nat.le_refl _) hlen hbB (Rd.cells span_len hcell)
    rw [List.take_length] at this
    exact this
/-- slices.ContainsFunc over spans, at any length. -/
theorem containsSpan_any (L : List SpanV) (v : Value) (p : SpanV → Bool) (g : Nat) (lb : Array Value) (w : World) (eg : ∀ args w, (callFunc g args).run Try.prog w = .ok (.enter g args) w)
    (hp : PredBelow Try.prog g lb (fun x : SpanV => .agg x.enc.toArray) p w) (h : Rd w w.heap.size 2 v L.length (scells L)) (hlen : L.length ≤ 9223372036854775807) :
    Calls Try.prog 53 #[v, .func (.func g) #[] lb] w fun e w' => e = .returned (.bool (L.any p)) ∧ Below w.heap.size w w' := by
  by_cases h0 : L.length = 0
  · obtain ⟨A, c, rfl, hc⟩ := h.form
    have e1 : L = [] := List.eq_nil_of_length_eq_zero h0
    subst e1
    have hi := indexSpan_any [] _ p g lb w eg hp h (by simp)
    have HI := Lib.hid hi
    clear hi hp h eg
    go_enter Try.func53, Try.ntmps53
    go_wp2_with fail
    refine HI.out.mono ?_
    rintro e w1 ⟨rfl, hb⟩
    have hm : (0 : Int) ≤ idxP p [] ↔ False := by rw [idxP_nil]; decide
    go_wp2
    go_ret
    exact ⟨ret_bool (by simp), hb⟩
  · obtain ⟨b, off, c, rfl, hc, hbB, hcell⟩ := h.pos (by omega)
    have := AnyQ.slices_ContainsFunc Try.containsSpan 2 Try.isAgg44 Try.sizeOf44 SpanV.enc span_len p g lb eg b off L.length c L w hp (Nat.le_refl _) hlen hbB (Rd.cells span_len hcell)
    rw [List.take_length] at this
    exact this

set_option maxHeartbeats 1000000 in
theorem has_any (L : List SpanV) (vl : Value) (x : Int) (w : World) (hl : Rd w w.heap.size 2 vl L.length (scells L)) (hlen : L.length ≤ 1099511627776) :
    Calls Try.prog 39 #[vl, .int .u32 x] w fun e w' => e = .returned (.bool (hasB L x)) ∧ Below w.heap.size w w' := by
  have hb1 := below1 w (.cells #[.int .u32 x] 23)
  have hcon := containsSpan_any L vl (fun s => s.inB x) 54 #[.pointer (some ⟨w.heap.size, 0, none⟩)] (w.alloc (.cells #[.int .u32 x] 23)) (enters_of Try.func54 (by kernel_rfl) rfl) (hasClos_pred x _ _ (blk1 w _)) ((hl.below hb1).mono hb1.size) (by omega)
  have HC := Lib.hid hcon
  have HB := Lib.hid hb1
  clear hcon hl hb1
  go_enter Try.func39, Try.ntmps39
  go_wp2_with fail
  refine HC.out.mono ?_
  rintro e w1 ⟨rfl, hb⟩
  have hbw := below_call HB.out hb
  go_wp2
  go_ret
  exact ⟨rfl, hbw⟩

def largeB (L M : List SpanV) : Bool := decide (200 < L.length) || decide (200 < M.length)
/-- '==' of two spans. -/
theorem eqlSpan (a b c d : Int) (w : World) : (binOp .eql 44 (.agg #[.int .u32 a, .int .u32 b]) (.agg #[.int .u32 c, .int .u32 d])).run Try.prog w = .ok (.bool ((a == c) && (b == d))) w := by
  have hS : Try.prog.underlying 44 = some (.struct (Try.prog.fieldsOf 44)) := by kernel_rfl
  have hp : Try.prog.stoodInHeld 44 = false := by kernel_rfl
  have b1 := Try.underlying23
  have b2 := Try.isAgg23
  have b3 := Try.sizeOf23
  rw [run_eql_struct, show (10000 : Nat) = 9998 + 1 + 1 from rfl, run_equalIn_agg w (9998 + 1) 44 _ _ hS hp]
  generalize 9998 = dd
  simp only [Program.fieldsOf, Try.underlying44]
  go_simp
  by_cases h1 : a = c <;> by_cases h2 : b = d <;> simp [h1, h2]
theorem formOf_self {R : List SpanV} (h : NF R) : formOf R = R := theSet_eq h (fun _ => rfl)
def sp46 : SpanV := ⟨4, 6, by omega, by omega⟩
def sp13 : SpanV := ⟨1, 3, by omega, by omega⟩
def sp16 : SpanV := ⟨1, 6, by omega, by omega⟩
theorem form46 : formOf [sp46, sp13] = [sp16] := by
  refine theSet_eq ⟨by decide, fun t ht => by simp at ht, trivial⟩ (fun x => ?_)
  rw [Bool.eq_iff_iff]
  simp [hasB, SpanV.inB, sp46, sp13, sp16]
  omega
set_option maxHeartbeats 4000000 in
theorem awake02_any (w : World) : Calls Try.prog 13 #[] w fun e w' => e = .returned (.bool true) ∧ Below w.heap.size w w' := by
  have hb0 := below1 w (.cells #[.int .u32 4, .int .u32 6, .int .u32 1, .int .u32 3] 44)
  have hr0 : Rd (w.alloc (.cells #[.int .u32 4, .int .u32 6, .int .u32 1, .int .u32 3] 44)) (w.alloc (.cells #[.int .u32 4, .int .u32 6, .int .u32 1, .int .u32 3] 44)).heap.size 2 (.slice (some ⟨w.heap.size, 0, none⟩) 2 2) [sp46, sp13].length (scells [sp46, sp13]) :=
    Rd.of_blk (cs := #[.int .u32 4, .int .u32 6, .int .u32 1, .int .u32 3]) (blk1 w _) (by decide) rfl
  have hf := form_any [sp46, sp13] _ _ hr0 (by decide)
  rw [form46] at hf
  have HF := Lib.hid hf
  have HB := Lib.hid hb0
  clear hf hb0 hr0
  go_enter Try.func13, Try.ntmps13
  go_wp2_with fail
  refine HF.out.mono ?_
  rintro e w1 ⟨v1, rfl, hown1, hb1⟩
  have hr1 : Rd w1 w1.heap.size 2 v1 [sp16].length (scells [sp16]) := Rd.of_own hown1
  obtain ⟨A1, c1, rfl, hA1⟩ := owns_form hown1
  obtain ⟨g, rfl⟩ := hA1 (by decide)
  have f0 : w1.cell? ⟨g, 0, none⟩ = some (.int .u32 1) := hown1.cellAt 0 (by decide)
  have f1 : w1.cell? ⟨g, 1, none⟩ = some (.int .u32 6) := hown1.cellAt 1 (by decide)
  have hbw := below_call HB.out hb1
  have hnf : NF [sp16] := ⟨by decide, fun t ht => by simp at ht, trivial⟩
  have hcnt := count_any [sp16] _ w1 hr1 (by decide)
  rw [formOf_self hnf, show cnt [sp16] = 6 from rfl] at hcnt
  have HC := Lib.hid hcnt
  have HR := Lib.hid hr1
  have HBW := Lib.hid hbw
  have heq : ∀ W, (binOp .eql 44 (.agg #[.int .u32 1, .int .u32 6]) (.agg #[.int .u32 1, .int .u32 6])).run Try.prog W = .ok (.bool true) W := fun W => eqlSpan 1 6 1 6 W
  clear hcnt hr1 hbw hown1 hb1 HF HB hnf
  go_wp2_with fail
  refine HC.out.mono ?_
  rintro e w2 ⟨rfl, hb2⟩
  have hbw2 := below_call HBW.out hb2
  have hr2 := (HR.out.below hb2).mono hb2.size
  have hh := has_any [sp16] _ 5 w2 hr2 (by decide)
  rw [show hasB [sp16] 5 = true from rfl] at hh
  clear HC HR HBW
  go_wp2_with fail
  refine hh.mono ?_
  rintro e w3 ⟨rfl, hb3⟩
  have hbw3 := below_call hbw2 hb3
  have hr3 := (hr2.below hb3).mono hb3.size
  have hh3 := has_any [sp16] _ 7 w3 hr3 (by decide)
  rw [show hasB [sp16] 7 = false from rfl] at hh3
  clear hh hr2 hbw2
  go_wp2_with fail
  refine hh3.mono ?_
  rintro e w4 ⟨rfl, hb4⟩
  have hbw4 := below_call hbw3 hb4
  go_wp2
  go_ret
  exact ⟨rfl, hbw4⟩

end Go.Proofs.Ythgmmajoinkblaa

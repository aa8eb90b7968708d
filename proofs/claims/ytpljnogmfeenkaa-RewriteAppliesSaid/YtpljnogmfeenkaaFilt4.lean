/-
  Walks over the filter's layer: whole filters: Check.
-/
import Derived.Test.YtpljnogmfeenkaaFilt2
import Derived.Test.YtpljnogmfeenkaaFilt3
import Derived.Test.YtpljnogmfeenkaaKit2
import Derived.Test.YtpljnogmfeenkaaShelf2
namespace Go.Proofs.Ytpljnogmfeenkaa
open Go Go.RowKit

instance : Inhabited RuleV := ⟨⟨false, 0, 0, 0, 0, 0, 0, 0, 0, 0, by omega, by omega, by omega, by omega, by omega, by omega, by omega⟩⟩
/-- A rule's ten cells. -/
def RuleV.enc (r : RuleV) : List Value := [.bool r.permit, .int .i64 r.proto, .int .u32 r.sa, .int .i64 r.sn, .int .u32 r.da, .int .i64 r.dn, .int .u32 r.sl, .int .u32 r.sh, .int .u32 r.dl, .int .u32 r.dh]
theorem rule_len (r : RuleV) : r.enc.length = 10 := rfl
def rcells (L : List RuleV) : List Value := L.flatMap RuleV.enc

set_option maxHeartbeats 400000 in
theorem notMay_any (r : RuleV) (w : World) :
    Calls Try.prog 96 #[.agg #[.bool r.permit, .int .i64 r.proto, .int .u32 r.sa, .int .i64 r.sn, .int .u32 r.da, .int .i64 r.dn, .int .u32 r.sl, .int .u32 r.sh, .int .u32 r.dl, .int .u32 r.dh]] w fun e w' => e = .returned (.bool (!mayB r)) ∧ Below w.heap.size w w' := by
  go_enter Try.func96, Try.ntmps96
  go_wp2_with fail
  refine (may_any r _).mono ?_
  rintro e w1 ⟨rfl, hb⟩
  have hbw := below_call (below1 w _) hb
  go_wp2
  go_ret
  exact ⟨rfl, hbw⟩
theorem notMay_pred (w : World) : PredBelow Try.prog 96 #[] (fun x : RuleV => .agg x.enc.toArray) (fun r => !mayB r) w := fun W r hb =>
  (notMay_any r W).mono fun _ _ ⟨he, hb'⟩ => ⟨he, hb.trans (hb'.mono hb.size)⟩

/-- slices.IndexFunc over rules, at any length. -/
theorem indexRule_any (L : List RuleV) (v : Value) (p : RuleV → Bool) (g : Nat) (lb : Array Value) (w : World) (eg : ∀ args w, (callFunc g args).run Try.prog w = .ok (.enter g args) w)
    (hp : PredBelow Try.prog g lb (fun x : RuleV => .agg x.enc.toArray) p w) (h : Rd w w.heap.size 10 v L.length (rcells L)) (hlen : L.length ≤ 9223372036854775807) :
    Calls Try.prog 98 #[v, .func (.func g) #[] lb] w fun e w' => e = .returned (.int .i64 (idxP p L)) ∧ Below w.heap.size w w' := by
  by_cases h0 : L.length = 0
  · obtain ⟨A, c, rfl, hc⟩ := h.form
    have e1 : L = [] := List.eq_nil_of_length_eq_zero h0
    subst e1
    clear hp h eg
    go_enter Try.func98, Try.ntmps98
    go_wp2
    refine wp_loop_rounds 1 ?_
    rw [rounds_succ]
    go_wp2
    go_ret
    exact ⟨rfl, Below.refl _ _⟩
  · obtain ⟨b, off, c, rfl, hc, hbB, hcell⟩ := h.pos (by omega)
    have := AnyQ.slices_IndexFunc Try.indexRule 10 Try.isAgg39 Try.sizeOf39 RuleV.enc rule_len p g lb eg b off L.length c L w hp (Nat.le_refl _) hlen hbB (Rd.cells rule_len hcell)
    rw [List.take_length] at this
    exact this
/-- slices.ContainsFunc over rules, at any length. -/
theorem containsRule_any (L : List RuleV) (v : Value) (p : RuleV → Bool) (g : Nat) (lb : Array Value) (w : World) (eg : ∀ args w, (callFunc g args).run Try.prog w = .ok (.enter g args) w)
    (hp : PredBelow Try.prog g lb (fun x : RuleV => .agg x.enc.toArray) p w) (h : Rd w w.heap.size 10 v L.length (rcells L)) (hlen : L.length ≤ 9223372036854775807) :
    Calls Try.prog 95 #[v, .func (.func g) #[] lb] w fun e w' => e = .returned (.bool (L.any p)) ∧ Below w.heap.size w w' := by
  by_cases h0 : L.length = 0
  · obtain ⟨A, c, rfl, hc⟩ := h.form
    have e1 : L = [] := List.eq_nil_of_length_eq_zero h0
    subst e1
    have hi := indexRule_any [] _ p g lb w eg hp h (by simp)
    have HI := Lib.hid hi
    clear hi hp h eg
    go_enter Try.func95, Try.ntmps95
    go_wp2_with fail
    refine HI.out.mono ?_
    rintro e w1 ⟨rfl, hb⟩
    have hm : (0 : Int) ≤ idxP p [] ↔ False := by rw [idxP_nil]; decide
    go_wp2
    go_ret
    exact ⟨ret_bool (by simp), hb⟩
  · obtain ⟨b, off, c, rfl, hc, hbB, hcell⟩ := h.pos (by omega)
    have := AnyQ.slices_ContainsFunc Try.containsRule 10 Try.isAgg39 Try.sizeOf39 RuleV.enc rule_len p g lb eg b off L.length c L w hp (Nat.le_refl _) hlen hbB (Rd.cells rule_len hcell)
    rw [List.take_length] at this
    exact this

/-- The refusal of a filter. -/
def filtE (L : List RuleV) : Int := if 256 < L.length then 121 else if L.any (fun r => !mayB r) then 121 else 0
theorem filtE_1 {L : List RuleV} (h : 256 < L.length) : filtE L = 121 := if_pos h
theorem filtE_2 {L : List RuleV} (h : ¬ 256 < L.length) (h1 : L.any (fun r => !mayB r) = true) : filtE L = 121 := by unfold filtE; rw [if_neg h, if_pos h1]
theorem filtE_3 {L : List RuleV} (h : ¬ 256 < L.length) (h1 : L.any (fun r => !mayB r) = false) : filtE L = 0 := by unfold filtE; rw [if_neg h, if_neg (by simp [h1])]

set_option maxHeartbeats 400000 in
theorem filtCheck_any (nm : ByteArray) (L : List RuleV) (v : Value) (w : World) (h : Rd w w.heap.size 10 v L.length (rcells L)) :
    Calls Try.prog 19 #[.agg #[.string nm, v]] w fun e w' => e = .returned (.int .i64 (filtE L)) ∧ Below w.heap.size w w' := by
  have hW : Below w.heap.size w (w.alloc (.cells #[.string nm, v] 34)) := below1 w _
  have h' := (h.below hW).mono hW.size
  obtain ⟨A, c, rfl, hc⟩ := h.form
  by_cases h1 : 256 < L.length
  · have hE := Lib.hid (filtE_1 h1)
    have h2 : (256 : Int) < (L.length : Int) := by omega
    clear h h'
    go_enter Try.func19, Try.ntmps19
    go_wp2
    go_ret
    exact ⟨ret_int hE.out.symm, hW⟩
  · have h2 : ¬ (256 : Int) < (L.length : Int) := by omega
    have hcon := Lib.hid (containsRule_any L _ (fun r => !mayB r) 96 #[] _ (enters_of Try.func96 (by kernel_rfl) rfl) (notMay_pred _) h' (by omega))
    clear h h'
    by_cases h3 : L.any (fun r => !mayB r) = true
    · have hE := Lib.hid (filtE_2 h1 h3)
      have H3 := Lib.hid h3
      clear h3 h1
      generalize L.any (fun r => !mayB r) = B at *
      go_enter Try.func19, Try.ntmps19
      go_wp2_with fail
      refine hcon.out.mono ?_
      rintro e w1 ⟨rfl, hb⟩
      have hB := H3.out
      have hbw := below_call hW hb
      go_wp2
      go_ret
      exact ⟨ret_int hE.out.symm, hbw⟩
    · have h3' : L.any (fun r => !mayB r) = false := by simpa using h3
      have hE := Lib.hid (filtE_3 h1 h3')
      have H3 := Lib.hid h3'
      clear h3 h3' h1
      generalize L.any (fun r => !mayB r) = B at *
      go_enter Try.func19, Try.ntmps19
      go_wp2_with fail
      refine hcon.out.mono ?_
      rintro e w1 ⟨rfl, hb⟩
      have hB := H3.out
      have hbw := below_call hW hb
      go_wp2
      go_ret
      exact ⟨ret_int hE.out.symm, hbw⟩

end Go.Proofs.Ytpljnogmfeenkaa

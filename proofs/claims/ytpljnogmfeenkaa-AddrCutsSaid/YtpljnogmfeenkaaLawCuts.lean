/-
  The walk of the law AddrCuts.
-/
import Derived.Test.YtpljnogmfeenkaaRefCut
import Derived.Test.YtpljnogmfeenkaaSame
namespace Go.Proofs.Ytpljnogmfeenkaa
open Go Go.RowKit

def ecode (lo hi : Int) : Int := if lo ≤ hi then 0 else 1
def cutQ (lo hi : Int) : List (Int × Int) := if lo ≤ hi then cutP lo hi else []
def CutRes2 (lo hi : Int) (w : World) (en : Ending) (w' : World) : Prop :=
  ∃ v, en = .returned (.tuple #[v, .int .i64 (ecode lo hi)]) ∧ w'.ownsRow w.heap.size 30 2 v (cutQ lo hi).length (pcells (cutQ lo hi)) ∧ Below w.heap.size w w'

theorem cutRes2_yes {lo hi : Int} (h : lo ≤ hi) {w : World} {en : Ending} {w' : World} (hr : CutRes (cutP lo hi) w en w') : CutRes2 lo hi w en w' := by
  obtain ⟨v, h1, h2, h3⟩ := hr
  have e1 : ecode lo hi = 0 := if_pos h
  have e2 : cutQ lo hi = cutP lo hi := if_pos h
  exact ⟨v, by rw [e1]; exact h1, by rw [e2]; exact h2, h3⟩
theorem cutRes2_no {lo hi : Int} (h : hi < lo) (w : World) : CutRes2 lo hi w (.returned (.tuple #[.slice none 0 0, .int .i64 1])) w := by
  have e1 : ecode lo hi = 1 := if_neg (by omega)
  have e2 : cutQ lo hi = [] := if_neg (by omega)
  exact ⟨_, by rw [e1], by rw [e2]; exact World.ownsRow_nil _ _ _ _, Below.refl _ _⟩

set_option maxHeartbeats 400000 in
theorem cutAll (lo hi : Int) (w : World) (h0 : 0 ≤ lo) (h2 : hi < 4294967296) : Calls Try.prog 15 #[.int .u32 lo, .int .u32 hi] w (CutRes2 lo hi w) := by
  by_cases h : lo ≤ hi
  · exact (cut_any lo hi w h0 h h2).mono fun _ _ hr => cutRes2_yes h hr
  · have h' : hi < lo := by omega
    go_enter Try.func15, Try.ntmps15
    go_wp2
    go_ret2
    exact cutRes2_no h' w
set_option maxHeartbeats 400000 in
theorem refCutAll (lo hi : Int) (w : World) (h0 : 0 ≤ lo) (h2 : hi < 4294967296) : Calls Try.prog 16 #[.int .u32 lo, .int .u32 hi] w (CutRes2 lo hi w) := by
  by_cases h : lo ≤ hi
  · exact (refCut_any lo hi w h0 h h2).mono fun _ _ hr => cutRes2_yes h hr
  · have h' : hi < lo := by omega
    go_enter Try.func16, Try.ntmps16
    go_wp2
    go_ret2
    exact cutRes2_no h' w

theorem cutQ_len (lo hi : Int) (h0 : 0 ≤ lo) (h2 : hi < 4294967296) : (cutQ lo hi).length ≤ 4294967296 := by
  have hl : ∀ (f : Nat) (a : Int), 0 ≤ a → ((cutL (hi + 1) f a).length : Int) ≤ 4294967296 - a ∨ (cutL (hi + 1) f a).length = 0 := by
    intro f
    induction f with
    | zero => intro a _; exact .inr rfl
    | succ f ih =>
      intro a ha
      by_cases h : a < hi + 1
      · rw [cutL_step _ _ _ h]
        have hp := p2_pos (pick a (hi + 1) 32)
        rcases ih (a + p2 (pick a (hi + 1) 32)) (by omega) with h1 | h1
        · exact .inl (by simp; omega)
        · exact .inl (by simp [h1]; omega)
      · rw [cutL_done _ _ _ (by omega)]; exact .inr rfl
  unfold cutQ cutP
  split
  · rcases hl (hi + 1 - lo).toNat lo h0 with h | h <;> omega
  · simp

set_option maxHeartbeats 1000000 in
theorem lawCuts_any (lo hi : Int) (w : World) (h0 : 0 ≤ lo) (h2 : hi < 4294967296) :
    Calls Try.prog 3 #[.int .u32 lo, .int .u32 hi] w fun e w' => e = .returned (.bool true) ∧ Below w.heap.size w w' := by
  have hlen := cutQ_len lo hi h0 h2
  go_enter Try.func3, Try.ntmps3
  go_wp2_with fail
  refine (cutAll lo hi _ h0 h2).mono ?_
  rintro e w1 ⟨va, rfl, hoa, hb1⟩
  obtain ⟨A, c, rfl, hA⟩ := owns_form hoa
  go_wp2_with fail
  refine (refCutAll lo hi _ h0 h2).mono ?_
  rintro e w2 ⟨vb, rfl, hob, hb2⟩
  have hra := (Rd.of_own hoa).below hb2
  have hrb := Rd.of_own hob
  go_wp2_with fail
  refine (same_any (cutQ lo hi) (cutQ lo hi) _ _ _ (hra.mono hb2.size) hrb hlen).mono ?_
  rintro e w3 ⟨rfl, hb3⟩
  have hrb3 := hrb.below hb3
  have hoa3 : w3.ownsRow w.heap.size 30 2 (.slice A (cutQ lo hi).length c) (cutQ lo hi).length (pcells (cutQ lo hi)) := owns_kept_none (owns_kept_none hoa (only_of_below hb2 none)) (only_of_below hb3 none)
  have hbw3 : Below w.heap.size w w3 := (hb1.trans (hb2.mono hb1.size)).trans (hb3.mono (Nat.le_trans hb1.size hb2.size))
  go_wp2
  go_loopw [9] (fun i wr => ∃ (k : Nat) (xs : List Value), i = .int .i64 k ∧ k ≤ (cutQ lo hi).length ∧ wr.ownsRow w.heap.size 30 2 (.slice A (cutQ lo hi).length c) (cutQ lo hi).length xs ∧ w3.grownBy wr (Value.slice A (cutQ lo hi).length c).ownBlock) (fun i _ => (cutQ lo hi).length - (intOf i).toNat)
  case atStart => exact ⟨0, _, rfl, by omega, hoa3, World.grownBy.refl _ _⟩
  case round =>
    obtain ⟨k, xs, rfl, hk, hown, hg⟩ := hrel
    by_cases hlt : k < (cutQ lo hi).length
    · obtain ⟨g, rfl⟩ := hA (by omega)
      have hf : wr.frozen? ⟨g, k * 2 + 1, none⟩ = false := hown.frozenAt _
      obtain ⟨u, hc⟩ : ∃ u, wr.cell? ⟨g, k * 2 + 1, none⟩ = some u := by
        rw [hown.cellAt _ (by omega)]
        exact ⟨_, List.getElem?_eq_getElem (by rw [hown.1]; omega)⟩
      have hst := hown.stored (k * 2 + 1) (.int .i64 (-1))
      have hw := Lib.hid (hst.1)
      have hw2 := Lib.hid (hg.trans hst.2)
      clear hst hown hg hoa hoa3 hra hA
      go_wp2
      exact ⟨⟨k + 1, _, by go_num, by omega, hw.out, hw2.out⟩, by simp only [intOf]; omega⟩
    · have hob3 := owns_kept_none hob (only_of_below hb3 none)
      have hobr := hob3.kept hg (by
        cases hv : vb.ownBlock with
        | none => exact .inl rfl
        | some gb =>
          refine .inr (fun e => ?_)
          have h3 := (hob3.lt gb hv).1
          have h4 := (hoa.lt gb e.symm).2
          omega)
      have hbr : Below w.heap.size w wr := hbw3.grown hg hbw3.size (fun k hk => (hoa.lt k hk).1)
      clear hob hob3 hoa hoa3 hra hrb hrb3 hA hown hg hbw3
      go_wp2_with fail
      refine (cutAll lo hi _ h0 h2).mono ?_
      rintro e w5 ⟨vc, rfl, hoc, hb5⟩
      have hrc := Rd.of_own hoc
      have hrb5 := (Rd.of_own hobr).below hb5
      go_wp2_with fail
      refine (same_any (cutQ lo hi) (cutQ lo hi) _ _ _ hrc (hrb5.mono hb5.size) hlen).mono ?_
      rintro e w6 ⟨rfl, hb6⟩
      go_wp2
      go_ret
      exact ⟨ret_bool (by simp), (hbr.trans (hb5.mono hbr.size)).trans (hb6.mono (Nat.le_trans hbr.size hb5.size))⟩

end Go.Proofs.Ytpljnogmfeenkaa

/-
  Walks over the addresses' laws: fit, same.
-/
import Derived.Test.YtdlhpiknifcehaaDoorAd5
import Derived.Test.YtdlhpiknifcehaaDoorCovMath
namespace Go.Proofs.YtdlhpiknifcehaaDoor
open Go Go.RowKit Go.Sort

/-- The bits that 'fit' makes of any int. -/
def fitN (k : Int) : Int := IntKind.u64.wrap k % 33
theorem fitN_range (k : Int) : 0 ≤ fitN k ∧ fitN k ≤ 32 := by unfold fitN; omega
theorem fit_chk (a k : Int) : chk (subA a (fitN k)) (fitN k) = 0 := chk_sub a (fitN k) (fitN_range k).1 (fitN_range k).2
theorem results_1 {fn : Func} {tmps : Array Value} {w : World} {g : Nat} {a b : Value} {t1 : Nat} (hf : fn.results = #[.cell t1 25]) (h1 : tmps.getD t1 undef = .pointer (some ⟨g, 0, none⟩))
    (k1 : w.heap[g]? = some (.cells #[a, b] 25 (0, 0))) :
    (results fn tmps).run Tryd.prog w = .ok (.agg #[a, b]) w := by
  obtain ⟨c0, c1, _, _⟩ := two_cells k1
  have h1' : tmps[t1]?.getD undef = .pointer (some ⟨g, 0, none⟩) := by simpa using h1
  simp [results, hf, h1', go_sem, c0, c1]
set_option maxHeartbeats 1000000 in
theorem fit_any (a k : Int) (w : World) (h0 : 0 ≤ a) (h1 : a < 4294967296) :
    Calls Tryd.prog 36 #[.int .u32 a, .int .i64 k] w fun e w' => e = .returned (.agg #[.int .u32 (subA a (fitN k)), .int .i64 (fitN k)]) ∧ Below w.heap.size w w' := by
  have hk0 := heap_alloc_new w (.cells #[.int .u32 0, .int .i64 0] 25)
  have hb0 : Below w.heap.size w (w.alloc (.cells #[.int .u32 0, .int .i64 0] 25)) := (Below.refl _ _).alloc (Nat.le_refl _) _
  have hr := fitN_range k
  obtain ⟨hr0, hr1⟩ := hr
  have hu : 0 ≤ IntKind.u64.wrap k := by simp [IntKind.wrap, IntKind.bits, IntKind.signed]; omega
  have hT : wrap64 ((IntKind.u64.wrap k).tmod 33) = fitN k := by
    rw [Int.tmod_eq_emod_of_nonneg hu]
    show wrap64 (fitN k) = fitN k
    unfold wrap64; omega
  have hU : wrap64 (32 - fitN k) = 32 - fitN k := by unfold wrap64; omega
  have hs0 : (32 - fitN k < 0) = False := by simp; omega
  clear hu
  have hB := Lib.hid (behind_val (fitN k) hr0 hr1)
  have hA := Lib.hid (andNot_sz a (fitN k) h0 h1)
  have hS := Lib.hid (sub_yes a hr0 hr1).1
  go_enter Tryd.func36, Tryd.ntmps36
  go_wp2
  exact bodyPost_ret (results_1 (t1 := 4) (g := w.heap.size) Tryd.results36 rfl (heap_alloc_new w _)) rfl ⟨by rw [hB.out, hA.out, hS.out], (Below.refl _ _).alloc (Nat.le_refl _) _⟩
set_option maxHeartbeats 1000000 in
theorem same_any2 (a n b m : Int) (w : World) :
    Calls Tryd.prog 16 #[.agg #[.int .u32 a, .int .i64 n], .agg #[.int .u32 b, .int .i64 m]] w fun e w' => e = .returned (.bool (decide (a = b ∧ n = m))) ∧ Below w.heap.size w w' := by
  by_cases ha : a = b
  · subst ha
    have e1 : (a == a) = true := by simp
    by_cases hn : n = m
    · subst hn
      have e3 : (n == n) = true := by simp
      go_enter Tryd.func16, Tryd.ntmps16
      go_wp2
      go_ret
      exact ⟨by simp, below2 w _ _⟩
    · have e3 : (n == m) = false := by simp [hn]
      have hE := Lib.hid hn
      clear hn
      go_enter Tryd.func16, Tryd.ntmps16
      go_wp2
      go_ret
      exact ⟨by simp [hE.out], below2 w _ _⟩
  · have e1 : (a == b) = false := by simp [ha]
    have hE := Lib.hid ha
    clear ha
    go_enter Tryd.func16, Tryd.ntmps16
    go_wp2
    go_ret
    exact ⟨by simp [hE.out], below2 w _ _⟩
end Go.Proofs.YtdlhpiknifcehaaDoor

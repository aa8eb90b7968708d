/-
  Walks over the addresses' layer: Cmp, and the law's same.
-/
import Derived.Test.YtdlhpiknifcehaaDoorAddr6
import Derived.Test.YtdlhpiknifcehaaDoorCmp
namespace Go.Proofs.YtdlhpiknifcehaaDoor
open Go Go.RowKit Go.Sort

/-- The order of prefixes. -/
def cmpP (a n b m : Int) : Int := firstNZ [cmpI a b, cmpI n m]

set_option maxHeartbeats 1000000 in
theorem addrCmp_any (a n b m : Int) (w : World) :
    Calls Tryd.prog 50 #[.agg #[.int .u32 a, .int .i64 n], .agg #[.int .u32 b, .int .i64 m]] w fun e w' => e = .returned (.int .i64 (cmpP a n b m)) ∧ Below w.heap.size w w' := by
  go_enter Tryd.func50, Tryd.ntmps50
  go_wp2
  obtain ⟨k0, k1⟩ := blk2 w (.cells #[.int .u32 a, .int .i64 n] 25) (.cells #[.int .u32 b, .int .i64 m] 25)
  obtain ⟨c0, c1, _, _⟩ := two_cells k0
  obtain ⟨c2, c3, _, _⟩ := two_cells k1
  have hsz := lt_of_block k1
  have hbW := below2 w (.cells #[.int .u32 a, .int .i64 n] 25) (.cells #[.int .u32 b, .int .i64 m] 25)
  clear k0 k1
  generalize (w.alloc (.cells #[.int .u32 a, .int .i64 n] 25)).alloc (.cells #[.int .u32 b, .int .i64 m] 25) = W at *
  go_region_held3 (fun w' => w'.cell? ⟨w.heap.size, 0, none⟩ = some (.int .u32 a) ∧ w'.cell? ⟨w.heap.size, 1, none⟩ = some (.int .i64 n) ∧ w'.cell? ⟨w.heap.size + 1, 0, none⟩ = some (.int .u32 b) ∧ w'.cell? ⟨w.heap.size + 1, 1, none⟩ = some (.int .i64 m)) (go_keep)
    (first | (go_at_call 73; refine (cmpAddr_any _ _ _).mono ?_; rintro e w' ⟨rfl, rfl⟩) | (go_at_call 74; refine (cmpInt_any _ _ _).mono ?_; rintro e w' ⟨rfl, rfl⟩) | (go_at_call 72; refine (cmpOr_any [cmpI a b, cmpI n m] _ _ (Rd.of_blk (cs := #[.int .i64 (cmpI a b), .int .i64 (cmpI n m)]) (t := 3) (heap_drew (heap_alloc_new _ _)) (Nat.le_refl _) rfl) (by simp)).mono ?_; rintro e w' ⟨rfl, rfl⟩))
  all_goals go_wp2
  go_ret
  exact ⟨rfl, (hbW.alloc hbW.size _).drew⟩


set_option maxHeartbeats 400000 in
theorem lawSame_any (a n : Int) (w : World) :
    Calls Tryd.prog 16 #[.agg #[.int .u32 a, .int .i64 n], .agg #[.int .u32 a, .int .i64 n]] w fun e w' => e = .returned (.bool true) ∧ Below w.heap.size w w' := by
  have e1 : (a == a) = true := by simp
  have e3 : (n == n) = true := by simp
  go_enter Tryd.func16, Tryd.ntmps16
  go_wp2
  go_ret
  exact ⟨rfl, below2 w _ _⟩

end Go.Proofs.YtdlhpiknifcehaaDoor

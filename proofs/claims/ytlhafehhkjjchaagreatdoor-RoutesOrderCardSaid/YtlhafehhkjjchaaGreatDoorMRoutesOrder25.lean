/-
  Joined texts: RtEq, Aw8.
-/
import Derived.Test.YtlhafehhkjjchaaGreatDoorMRoutesOrder18
import Derived.Test.YtlhafehhkjjchaaGreatDoorMRoutesOrder24
/-
  '==' on two routes.
-/
namespace Go.Proofs.YtlhafehhkjjchaaGreatDoor
open Go Go.RowKit Go.Sort

set_option maxHeartbeats 4000000 in
theorem eqPrefG (a m b n : Int) (d : Nat) (w : World) : (Op.equalIn (d + 1 + 1) 25 (.agg #[.int .u32 a, .int .i64 m]) (.agg #[.int .u32 b, .int .i64 n])).run Tryz.prog w = .ok (a == b && m == n) w := by
  have hS : Tryz.prog.underlying 25 = some (.struct (Tryz.prog.fieldsOf 25)) := by kernel_rfl
  have hp : Tryz.prog.stoodInHeld 25 = false := by kernel_rfl
  have a1 := Tryz.underlying23
  have a2 := Tryz.isAgg23
  have a3 := Tryz.sizeOf23
  have b1 := Tryz.underlying3
  have b2 := Tryz.isAgg3
  have b3 := Tryz.sizeOf3
  rw [run_equalIn_agg w (d + 1) 25 _ _ hS hp]
  simp only [Program.fieldsOf, Tryz.underlying25]
  by_cases h : a = b
  · subst h
    have e : (a == a) = true := by simp
    by_cases k : m = n
    · subst k
      have e2 : (m == m) = true := by simp
      go_simp
    · have e2 : (m == n) = false := by simpa using k
      go_simp
  · have e : (a == b) = false := by simpa using h
    go_simp
set_option maxRecDepth 100000 in
set_option maxHeartbeats 4000000 in
theorem eqlRoute (r q : RtV) : ∃ b : Bool, (∀ W, (binOp .eql 27 (.agg #[.int .u32 r.a, .int .i64 r.m, .int .u8 r.fr, .int .i64 r.di, .int .i64 r.me, .int .i64 r.ta, .string ⟨r.nm.toArray⟩, .int .u32 r.ho, .bool r.dc]) (.agg #[.int .u32 q.a, .int .i64 q.m, .int .u8 q.fr, .int .i64 q.di, .int .i64 q.me, .int .i64 q.ta, .string ⟨q.nm.toArray⟩, .int .u32 q.ho, .bool q.dc])).run Tryz.prog W = .ok (.bool b) W) ∧ (b = true ↔ r = q) := by
  have hS : Tryz.prog.underlying 27 = some (.struct (Tryz.prog.fieldsOf 27)) := by kernel_rfl
  have hp : Tryz.prog.stoodInHeld 27 = false := by kernel_rfl
  have b1 := Tryz.underlying3
  have b2 := Tryz.isAgg3
  have b3 := Tryz.sizeOf3
  have c1 := Tryz.underlying4
  have c2 := Tryz.isAgg4
  have c3 := Tryz.sizeOf4
  have f1 := Tryz.underlying9
  have f2 := Tryz.isAgg9
  have f3 := Tryz.sizeOf9
  have g1 := Tryz.underlying5
  have g2 := Tryz.isAgg5
  have g3 := Tryz.sizeOf5
  have h1 := Tryz.underlying23
  have h2 := Tryz.isAgg23
  have h3 := Tryz.sizeOf23
  have d2 := Tryz.isAgg25
  have d3 := Tryz.sizeOf25
  have hnm : ((⟨r.nm.toArray⟩ : ByteArray).toList == (⟨q.nm.toArray⟩ : ByteArray).toList) = decide (r.nm = q.nm) := by
    rw [list_of, list_of, Bool.eq_iff_iff]; simp
  generalize (⟨r.nm.toArray⟩ : ByteArray) = rn at *
  generalize (⟨q.nm.toArray⟩ : ByteArray) = qn at *
  have hx : ∃ b : Bool, (∀ W, (binOp .eql 27 (.agg #[.int .u32 r.a, .int .i64 r.m, .int .u8 r.fr, .int .i64 r.di, .int .i64 r.me, .int .i64 r.ta, .string rn, .int .u32 r.ho, .bool r.dc]) (.agg #[.int .u32 q.a, .int .i64 q.m, .int .u8 q.fr, .int .i64 q.di, .int .i64 q.me, .int .i64 q.ta, .string qn, .int .u32 q.ho, .bool q.dc])).run Tryz.prog W = .ok (.bool b) W) ∧ (b = true ↔ r = q) := by
    by_cases k0 : (r.a == q.a && r.m == q.m) = true
    · by_cases k1 : (r.fr == q.fr) = true
      · by_cases k2 : (r.di == q.di) = true
        · by_cases k3 : (r.me == q.me) = true
          · by_cases k4 : (r.ta == q.ta) = true
            · by_cases k5 : (rn.toList == qn.toList) = true
              · by_cases k6 : (r.ho == q.ho) = true
                · by_cases k7 : (r.dc == q.dc) = true
                  · refine ⟨true, fun W => ?_, ?_⟩
                    · rw [run_eql_struct, show (10000 : Nat) = 9997 + 1 + 1 + 1 from rfl, run_equalIn_agg W (9997 + 1 + 1) 27 _ _ hS hp]; generalize 9997 = d; have E1 := fun a m b n w => eqPrefG a m b n d w; simp only [Program.fieldsOf, Tryz.underlying27]; clear hnm; go_simp
                    · simp only [true_iff]
                      simp only [Bool.and_eq_true, beq_iff_eq] at k0 k1 k2 k3 k4 k6 k7
                      rw [hnm] at k5
                      exact rt_ext k0.1 k0.2 k1 k2 k3 k4 (of_decide_eq_true k5) k6 k7
                  · replace k7 := Bool.eq_false_iff.2 k7
                    refine ⟨false, fun W => ?_, ?_⟩
                    · rw [run_eql_struct, show (10000 : Nat) = 9997 + 1 + 1 + 1 from rfl, run_equalIn_agg W (9997 + 1 + 1) 27 _ _ hS hp]; generalize 9997 = d; have E1 := fun a m b n w => eqPrefG a m b n d w; simp only [Program.fieldsOf, Tryz.underlying27]; clear hnm; go_simp
                    · constructor
                      · intro h; cases h
                      · rintro rfl
                        first | (simp at k7; done) | (rw [hnm] at k7; simp at k7)
                · replace k6 := Bool.eq_false_iff.2 k6
                  refine ⟨false, fun W => ?_, ?_⟩
                  · rw [run_eql_struct, show (10000 : Nat) = 9997 + 1 + 1 + 1 from rfl, run_equalIn_agg W (9997 + 1 + 1) 27 _ _ hS hp]; generalize 9997 = d; have E1 := fun a m b n w => eqPrefG a m b n d w; simp only [Program.fieldsOf, Tryz.underlying27]; clear hnm; go_simp
                  · constructor
                    · intro h; cases h
                    · rintro rfl
                      first | (simp at k6; done) | (rw [hnm] at k6; simp at k6)
              · replace k5 := Bool.eq_false_iff.2 k5
                refine ⟨false, fun W => ?_, ?_⟩
                · rw [run_eql_struct, show (10000 : Nat) = 9997 + 1 + 1 + 1 from rfl, run_equalIn_agg W (9997 + 1 + 1) 27 _ _ hS hp]; generalize 9997 = d; have E1 := fun a m b n w => eqPrefG a m b n d w; simp only [Program.fieldsOf, Tryz.underlying27]; clear hnm; go_simp
                · constructor
                  · intro h; cases h
                  · rintro rfl
                    first | (simp at k5; done) | (rw [hnm] at k5; simp at k5)
            · replace k4 := Bool.eq_false_iff.2 k4
              refine ⟨false, fun W => ?_, ?_⟩
              · rw [run_eql_struct, show (10000 : Nat) = 9997 + 1 + 1 + 1 from rfl, run_equalIn_agg W (9997 + 1 + 1) 27 _ _ hS hp]; generalize 9997 = d; have E1 := fun a m b n w => eqPrefG a m b n d w; simp only [Program.fieldsOf, Tryz.underlying27]; clear hnm; go_simp
              · constructor
                · intro h; cases h
                · rintro rfl
                  first | (simp at k4; done) | (rw [hnm] at k4; simp at k4)
          · replace k3 := Bool.eq_false_iff.2 k3
            refine ⟨false, fun W => ?_, ?_⟩
            · rw [run_eql_struct, show (10000 : Nat) = 9997 + 1 + 1 + 1 from rfl, run_equalIn_agg W (9997 + 1 + 1) 27 _ _ hS hp]; generalize 9997 = d; have E1 := fun a m b n w => eqPrefG a m b n d w; simp only [Program.fieldsOf, Tryz.underlying27]; clear hnm; go_simp
            · constructor
              · intro h; cases h
              · rintro rfl
                first | (simp at k3; done) | (rw [hnm] at k3; simp at k3)
        · replace k2 := Bool.eq_false_iff.2 k2
          refine ⟨false, fun W => ?_, ?_⟩
          · rw [run_eql_struct, show (10000 : Nat) = 9997 + 1 + 1 + 1 from rfl, run_equalIn_agg W (9997 + 1 + 1) 27 _ _ hS hp]; generalize 9997 = d; have E1 := fun a m b n w => eqPrefG a m b n d w; simp only [Program.fieldsOf, Tryz.underlying27]; clear hnm; go_simp
          · constructor
            · intro h; cases h
            · rintro rfl
              first | (simp at k2; done) | (rw [hnm] at k2; simp at k2)
      · replace k1 := Bool.eq_false_iff.2 k1
        refine ⟨false, fun W => ?_, ?_⟩
        · rw [run_eql_struct, show (10000 : Nat) = 9997 + 1 + 1 + 1 from rfl, run_equalIn_agg W (9997 + 1 + 1) 27 _ _ hS hp]; generalize 9997 = d; have E1 := fun a m b n w => eqPrefG a m b n d w; simp only [Program.fieldsOf, Tryz.underlying27]; clear hnm; go_simp
        · constructor
          · intro h; cases h
          · rintro rfl
            first | (simp at k1; done) | (rw [hnm] at k1; simp at k1)
    · replace k0 := Bool.eq_false_iff.2 k0
      refine ⟨false, fun W => ?_, ?_⟩
      · rw [run_eql_struct, show (10000 : Nat) = 9997 + 1 + 1 + 1 from rfl, run_equalIn_agg W (9997 + 1 + 1) 27 _ _ hS hp]; generalize 9997 = d; have E1 := fun a m b n w => eqPrefG a m b n d w; simp only [Program.fieldsOf, Tryz.underlying27]; clear hnm; go_simp
      · constructor
        · intro h; cases h
        · rintro rfl
          first | (simp at k0; done) | (rw [hnm] at k0; simp at k0)
  exact hx
end Go.Proofs.YtlhafehhkjjchaaGreatDoor

/-
  The law's own awake() of stage 8 (written by wip/gen/genaw8.py).
-/
namespace Go.Proofs.YtlhafehhkjjchaaGreatDoor
open Go Go.RowKit Go.Sort

def r08 : RtV := ⟨167772160, 8, 3, 110, 20, 0, [101, 116, 104, 48], 167837697, false, by omega, by omega, by omega, by omega, by omega, by omega, by omega⟩
theorem r08_ok : r08.ok = true := by kernel_rfl
theorem r08_text : r08.text = (#[49, 48, 46, 48, 46, 48, 46, 48, 47, 56, 32, 105, 110, 116, 114, 97, 32, 49, 49, 48, 32, 50, 48, 32, 48, 32, 118, 105, 97, 32, 49, 48, 46, 49, 46, 48, 46, 49, 32, 111, 110, 32, 101, 116, 104, 48] : Array UInt8).toList := by kernel_rfl
set_option maxRecDepth 100000 in
theorem text08 (w : World) (hE : Env w) : Calls Tryz.prog 9 #[.agg #[.int .u32 167772160, .int .i64 8, .int .u8 3, .int .i64 110, .int .i64 20, .int .i64 0, .string ⟨#[101, 116, 104, 48]⟩, .int .u32 167837697, .bool false]] w fun e w' => e = .returned (.tuple #[.string ⟨#[49, 48, 46, 48, 46, 48, 46, 48, 47, 56, 32, 105, 110, 116, 114, 97, 32, 49, 49, 48, 32, 50, 48, 32, 48, 32, 118, 105, 97, 32, 49, 48, 46, 49, 46, 48, 46, 49, 32, 111, 110, 32, 101, 116, 104, 48]⟩, .int .i64 0]) ∧ Below w.heap.size w w' := by
  have h := rtText_any r08 w hE (fun _ => name_any _)
  rw [(rt_told_yes r08_ok).1, (rt_told_yes r08_ok).2, r08_text] at h
  exact h
set_option maxRecDepth 100000 in
theorem parse08 (w : World) (hE : Env w) : Calls Tryz.prog 10 #[.string ⟨#[49, 48, 46, 48, 46, 48, 46, 48, 47, 56, 32, 105, 110, 116, 114, 97, 32, 49, 49, 48, 32, 50, 48, 32, 48, 32, 118, 105, 97, 32, 49, 48, 46, 49, 46, 48, 46, 49, 32, 111, 110, 32, 101, 116, 104, 48]⟩] w fun e w' => e = .returned (.tuple #[.agg #[.int .u32 167772160, .int .i64 8, .int .u8 3, .int .i64 110, .int .i64 20, .int .i64 0, .string ⟨#[101, 116, 104, 48]⟩, .int .u32 167837697, .bool false], .int .i64 0]) ∧ Below w.heap.size w w' := by
  have h := rtParse_any ⟨#[49, 48, 46, 48, 46, 48, 46, 48, 47, 56, 32, 105, 110, 116, 114, 97, 32, 49, 49, 48, 32, 50, 48, 32, 48, 32, 118, 105, 97, 32, 49, 48, 46, 49, 46, 48, 46, 49, 32, 111, 110, 32, 101, 116, 104, 48]⟩ w hE (by decide)
  have e := ro_some (l := (⟨#[49, 48, 46, 48, 46, 48, 46, 48, 47, 56, 32, 105, 110, 116, 114, 97, 32, 49, 49, 48, 32, 50, 48, 32, 48, 32, 118, 105, 97, 32, 49, 48, 46, 49, 46, 48, 46, 49, 32, 111, 110, 32, 101, 116, 104, 48]⟩ : ByteArray).data.toList) (r := r08) (by rw [show (⟨#[49, 48, 46, 48, 46, 48, 46, 48, 47, 56, 32, 105, 110, 116, 114, 97, 32, 49, 49, 48, 32, 50, 48, 32, 48, 32, 118, 105, 97, 32, 49, 48, 46, 49, 46, 48, 46, 49, 32, 111, 110, 32, 101, 116, 104, 48]⟩ : ByteArray).data.toList = r08.text from r08_text.symm]; exact roO_text r08_ok)
  rw [e.1, e.2] at h
  exact h
theorem eql08 (W : World) : (binOp .eql 27 (.agg #[.int .u32 167772160, .int .i64 8, .int .u8 3, .int .i64 110, .int .i64 20, .int .i64 0, .string ⟨#[101, 116, 104, 48]⟩, .int .u32 167837697, .bool false]) (.agg #[.int .u32 167772160, .int .i64 8, .int .u8 3, .int .i64 110, .int .i64 20, .int .i64 0, .string ⟨#[101, 116, 104, 48]⟩, .int .u32 167837697, .bool false])).run Tryz.prog W = .ok (.bool true) W := by
  obtain ⟨b, h1, h2⟩ := eqlRoute r08 r08
  rw [h2.2 rfl] at h1
  exact h1 W
set_option maxRecDepth 100000 in
set_option maxHeartbeats 4000000 in
theorem lawAwake08_any (w : World) (hE : Env w) : Calls Tryz.prog 4 #[] w fun e w' => e = .returned (.bool true) ∧ Below w.heap.size w w' := by
  have hk0 := heap_alloc_new w (.cells #[.int .u32 167772160, .int .i64 8, .int .u8 3, .int .i64 110, .int .i64 20, .int .i64 0, .string ⟨#[101, 116, 104, 48]⟩, .int .u32 167837697, .bool false] 27)
  have hb0 := below1 w (.cells #[.int .u32 167772160, .int .i64 8, .int .u8 3, .int .i64 110, .int .i64 20, .int .i64 0, .string ⟨#[101, 116, 104, 48]⟩, .int .u32 167837697, .bool false] 27)
  have hE0 := hE.below hb0
  obtain ⟨c0, c1, c2, c3, c4, c5, c6, c7, c8⟩ := blk9 (t := 27) hk0
  go_enter Tryz.func4, Tryz.ntmps4
  go_wp2_with fail
  refine (text08 _ hE0).mono ?_
  rintro e w1 ⟨rfl, hb⟩
  have hb1 := below_call hb0 hb
  have k1 := blk_below hb hk0
  clear c0 c1 c2 c3 c4 c5 c6 c7 c8
  go_wp2_with fail
  refine (parse08 _ (hE.below hb1)).mono ?_
  rintro e w2 ⟨rfl, hb⟩
  have hb2 := below_call hb1 hb
  have k2 := blk_below hb k1
  have k3 := blk_below (below1 w2 (.cells #[.int .u32 167772160, .int .i64 8, .int .u8 3, .int .i64 110, .int .i64 20, .int .i64 0, .string ⟨#[101, 116, 104, 48]⟩, .int .u32 167837697, .bool false] 27)) k2
  have k4 := heap_alloc_new w2 (.cells #[.int .u32 167772160, .int .i64 8, .int .u8 3, .int .i64 110, .int .i64 20, .int .i64 0, .string ⟨#[101, 116, 104, 48]⟩, .int .u32 167837697, .bool false] 27)
  obtain ⟨c0, c1, c2, c3, c4, c5, c6, c7, c8⟩ := blk9 (t := 27) k3
  obtain ⟨d0, d1, d2, d3, d4, d5, d6, d7, d8⟩ := blk9 (t := 27) k4
  have hbf := hb2.alloc hb2.size (.cells #[.int .u32 167772160, .int .i64 8, .int .u8 3, .int .i64 110, .int .i64 20, .int .i64 0, .string ⟨#[101, 116, 104, 48]⟩, .int .u32 167837697, .bool false] 27)
  have hq := eql08
  clear hk0 k1 k2 k3 k4 hb hb0 hb1 hb2
  go_wp2
  go_ret
  exact ⟨rfl, hbf⟩
end Go.Proofs.YtlhafehhkjjchaaGreatDoor

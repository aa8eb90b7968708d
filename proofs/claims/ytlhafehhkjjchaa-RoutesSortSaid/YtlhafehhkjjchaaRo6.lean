/-
  The document's Sort of routes (written by wip/gen/genro6.py).
-/
import Derived.Test.YtlhafehhkjjchaaRo5
import Derived.Test.YtlhafehhkjjchaaRo3
import Derived.Deep.DeepCutAuto
import Derived.Deep.CutBlock
import Derived.Deep.RegionLaw
import Derived.StillTailTactics
namespace Go.Proofs.Ytlhafehhkjjchaa
open Go Go.RowKit Go.Lib Go.Sort

/-- One element of at most 128 bytes (its cells have just been laid in a block of their own) is appended to a row of the call's own. -/
theorem wpList_push9 {P : Program} {ops : Array Oper} {rest : List Oper} {o : Oper} {a : Act} {Q : Exit → Act → World → Prop} (hgd : o.guard = none) (s x : Operand) (t : TypeId)
    (ho : o.op = .call { callee := .builtin .append, args := #[s, x], argTypes := #[t, t] })
    (e : TypeId) (i : TypeInfo) (z : Value) (size bytes : Nat) (ht : P.underlying t = some (.slice e)) (hi : P.info? e = some i) (hz : i.zero = some z)
    (hsize : i.size = size) (hby : i.bytes = bytes) (hzs : z.cells.size = size) (hsz : 0 < size) (hb64 : bytes ≤ 128)
    {w0 : World} {base n : Nat} {v : Value} {xs : List Value} (es : List Value) (hs : a.eval s = v) {g0 : Nat} (hx : a.eval x = .slice (some ⟨g0, 0, none⟩) 1 1) (hg0 : g0 = w0.heap.size)
    (hown : w0.ownsRow base e size v n xs) (hes : es.length = size) (h1 : ∀ u ∈ es, u.oneCell' = true) (hn : n ≤ 549755813888) (hbase : base ≤ w0.heap.size)
    {B : Nat} {a0 : World} (hb : Below B a0 w0) (hB : B ≤ base)
    (h : ∀ v' w', w'.ownsRow base e size v' (n + 1) (xs ++ es) → Below B a0 w' → wpList P ops Q rest (a.put o.dst v') w') : wpList P ops Q (o :: rest) a (w0.alloc (.cells es.toArray e)) := by
  subst hg0
  refine wpList_append_own _ hgd s x t ho base e i z size bytes ht hi hz hsize hby hzs hsz v n xs hs (hown.alloc _) ⟨w0.heap.size, 0, none⟩ 1 1 es hx (by omega) (cells_new w0 es e) h1 (by unfold maxLen; omega) ?_ (by simp; omega) ?_
  · calc (n + 1) * bytes ≤ (549755813888 + 1) * 128 := Nat.mul_le_mul (by omega) hb64
      _ ≤ 140737488355328 := by decide
  · intro v' w' h2 h3 _
    exact h v' w' h2 (below_row (hb.alloc (by omega) _) (hown.alloc _) h3 (by simp; omega) hB)
theorem sorted_nil : Sorted [] [] := ⟨List.Pairwise.nil, fun x => by simp⟩
theorem sorted_skip {l R : List RouteV} {x : RouteV} (h : Sorted l R) (hx : x ∈ R) : Sorted (l ++ [x]) R := by
  refine ⟨h.1, fun y => ?_⟩
  rw [List.mem_append, ← h.2 y]
  constructor
  · exact .inl
  · rintro (h1 | h1)
    · exact h1
    · rw [List.mem_singleton] at h1; rw [h1]; exact hx
theorem sorted_ins {l R : List RouteV} {x : RouteV} {k : Nat} (h : Sorted l R) (hk : k ≤ R.length) (hg : ∀ (i : Nat) y, k ≤ i → R[i]? = some y → cmpR x y < 0) (hl : 0 < k → ∃ y, R[k - 1]? = some y ∧ 0 < cmpR x y) : Sorted (l ++ [x]) (R.take k ++ x :: R.drop k) := by
  have hU : (R.take k ++ R.drop k).Pairwise (fun x y => cmpR x y < 0) := by rw [List.take_append_drop]; exact h.1
  obtain ⟨hA, hB, hC⟩ := List.pairwise_append.1 hU
  have hd : ∀ y ∈ R.drop k, cmpR x y < 0 := by
    intro y hy
    obtain ⟨i, hi, e⟩ := List.getElem_of_mem hy
    rw [List.getElem_drop] at e
    exact hg (k + i) y (by omega) (by rw [← e]; exact List.getElem?_eq_getElem _)
  have ht : ∀ y ∈ R.take k, cmpR y x < 0 := by
    intro y hy
    obtain ⟨i, hi, e⟩ := List.getElem_of_mem hy
    have hik : i < k := by simp at hi; omega
    rw [List.getElem_take] at e
    obtain ⟨z, hz, hzx⟩ := hl (by omega)
    have h1 := ord3_R.anti x z
    obtain ⟨hz1, hz2⟩ := List.getElem?_eq_some_iff.1 hz
    rcases Nat.eq_or_lt_of_le (show i ≤ k - 1 by omega) with e2 | e2
    · have : y = z := by rw [← e, ← hz2]; congr 1
      rw [this]; omega
    · have := List.pairwise_iff_getElem.1 h.1 i (k - 1) (by omega) hz1 e2
      rw [e, hz2] at this
      exact ord3_R.lt this (by omega)
  refine ⟨List.pairwise_append.2 ⟨hA, List.pairwise_cons.2 ⟨hd, hB⟩, fun a ha b hb => ?_⟩, fun y => ?_⟩
  · rcases List.mem_cons.1 hb with rfl | hb
    · exact ht a ha
    · exact hC a ha b hb
  · have hm : y ∈ R ↔ y ∈ R.take k ∨ y ∈ R.drop k := by rw [← List.mem_append, List.take_append_drop]
    have h2 := h.2 y
    simp only [List.mem_append, List.mem_cons, List.not_mem_nil, or_false, ← h2, hm]
    constructor
    · rintro (h | h | h)
      · exact .inl (.inl h)
      · exact .inr h
      · exact .inl (.inr h)
    · rintro ((h | h) | h)
      · exact .inl h
      · exact .inr (.inr h)
      · exact .inr (.inl h)
theorem ins_len {R : List RouteV} {x : RouteV} {k : Nat} (hk : k ≤ R.length) : (R.take k ++ x :: R.drop k).length = R.length + 1 := by simp; omega
theorem splice_len {α : Type} {A B C D : List α} (h : B.length = D.length) : splice (A ++ (B ++ C)) A.length D = A ++ (D ++ C) := by
  unfold splice
  rw [List.take_left', ← h, ← List.drop_drop, List.drop_left', List.drop_left'] <;> rfl
/-- The cells behind a copy one place up and a store into the gap. -/
theorem put_cells9 {cur : List Value} {R : List RouteV} {k : Nat} (x : RouteV) (hk : k ≤ R.length) (z : List Value) (hz : z.length = 9) (h : cur.take ((R.length + 1) * 9) = rvcells R ++ z) :
    (splice (splice cur ((k + 1) * 9) (rvcells (R.drop k))) (k * 9) x.enc).take ((R.length + 1) * 9) = rvcells (R.take k ++ x :: R.drop k) := by
  obtain ⟨A, hA⟩ : ∃ A, A = rvcells (R.take k) := ⟨_, rfl⟩
  obtain ⟨D, hD⟩ : ∃ D, D = rvcells (R.drop k) := ⟨_, rfl⟩
  have lA : A.length = k * 9 := by rw [hA, rvcells_len, List.length_take]; omega
  have lD : D.length = (R.length - k) * 9 := by rw [hD, rvcells_len, List.length_drop]
  have hR : rvcells R = A ++ D := by rw [hA, hD, ← rvcells_append, List.take_append_drop]
  obtain ⟨Z, hZ⟩ : ∃ Z, Z = cur.drop ((R.length + 1) * 9) := ⟨_, rfl⟩
  have hc : cur = A ++ ((D ++ z) ++ Z) := by
    rw [← List.take_append_drop ((R.length + 1) * 9) cur, h, hR, ← hZ]; simp
  obtain ⟨Y, V, hYV, lY⟩ : ∃ Y V, D ++ z = Y ++ V ∧ Y.length = 9 := ⟨(D ++ z).take 9, (D ++ z).drop 9, (List.take_append_drop _ _).symm, by simp; omega⟩
  have lV : V.length = D.length := by
    have := congrArg List.length hYV
    simp only [List.length_append] at this
    omega
  have e1 : cur = (A ++ Y) ++ (V ++ Z) := by rw [hc, hYV]; simp
  have l1 : (k + 1) * 9 = (A ++ Y).length := by rw [List.length_append]; omega
  rw [← hD, e1, l1, splice_len lV, List.append_assoc, ← lA, splice_len (by rw [lY]; rfl), rvcells_append, ← hA, show rvcells (x :: R.drop k) = x.enc ++ D from by rw [hD]; rfl]
  have l2 : (R.length + 1) * 9 = (A ++ (x.enc ++ D)).length := by
    simp only [List.length_append, route_len]; omega
  rw [show A ++ (x.enc ++ (D ++ Z)) = (A ++ (x.enc ++ D)) ++ Z by simp, List.take_left' l2.symm]
/-- The sorted list is handed back, in new memory. -/
def SortRes (L : List RouteV) (w : World) (e : Ending) (w' : World) : Prop :=
  ∃ (v : Value) (S : List RouteV), e = .returned v ∧ Sorted L S ∧ S.length ≤ L.length ∧ w'.ownsRow w.heap.size 28 9 v S.length (rvcells S) ∧ Below w.heap.size w w'
theorem own_upR {a w w' : World} {n : Nat} {v : Value} {xs : List Value} (h : w.ownsRow a.heap.size 28 9 v n xs) (hb : Below w.heap.size w w') : w'.ownsRow a.heap.size 28 9 v n xs := owns_kept_none h (only_of_below hb none)
set_option maxRecDepth 100000 in
set_option maxHeartbeats 8000000 in
theorem refSortR_any (L : List RouteV) (vl : Value) (w : World) (hl : Rd w w.heap.size 9 vl L.length (rvcells L)) (hlen : L.length ≤ 549755813888) :
    Calls Try.prog 7 #[vl] w (SortRes L w) := by
  obtain ⟨i0, hi, hz0, hz1, hz2⟩ := info_parts Try.infoRoute
  obtain ⟨Al, cl, rfl, _⟩ := hl.form
  have HL := Lib.hid hl
  clear hl
  go_enter Try.func7, Try.ntmps7
  go_wp2
  go_loopw [3, 4] (fun v i wr => ∃ (j : Nat) (R : List RouteV), i = .int .i64 j ∧ j ≤ L.length ∧ Hid (Sorted (L.take j) R) ∧ R.length ≤ j ∧ Hid (wr.ownsRow w.heap.size 28 9 v R.length (rvcells R)) ∧ Hid (Below w.heap.size w wr)) (fun _ i _ => L.length - (intOf i).toNat)
  case atStart => exact ⟨0, [], rfl, by omega, sorted_nil, by simp, World.ownsRow_nil _ _ _ _, Below.refl _ _⟩
  case round =>
    obtain ⟨j, R, rfl, hj, HS, hRj, HO, HB⟩ := hrel
    by_cases hlt : j < L.length
    · have hI : (j : Int) < (L.length : Int) := by omega
      obtain ⟨x, hx⟩ : ∃ x, L[j]? = some x := ⟨_, List.getElem?_eq_getElem hlt⟩
      have HX := Lib.hid hx
      obtain ⟨A0, c0, hv0, hA0⟩ := owns_form HO.out
      subst hv0
      have hsz := HB.out.size
      clear hx
      go_upto_block 2 with fail
      go_cut [5] (fun s5 wx => ∃ k : Nat, s5 = .int .i64 k ∧ k ≤ R.length ∧ Hid (∀ (i : Nat) y, k ≤ i → R[i]? = some y → cmpR x y < 0) ∧ Hid (0 < k → ∃ y, R[k - 1]? = some y ∧ 0 ≤ cmpR x y) ∧ Hid (Below wr.heap.size wr wx))
      case first =>
        go_wp2_with fail
        go_loopw [5] (fun s5 wx => ∃ k : Nat, s5 = .int .i64 k ∧ k ≤ R.length ∧ Hid (∀ (i : Nat) y, k ≤ i → R[i]? = some y → cmpR x y < 0) ∧ Hid (Below wr.heap.size wr wx)) (fun s5 _ => (intOf s5).toNat)
        case atStart => exact ⟨R.length, rfl, by omega, (fun i y hi h => by have := (List.getElem?_eq_some_iff.1 h).1; omega), Below.refl _ _⟩
        case round =>
          obtain ⟨k, rfl, hk, HG, HN⟩ := hrel
          rename World => wx
          rcases k with _ | k
          · go_wp2
            refine wp_region_quiet_below (by kernel_rfl) (by kernel_rfl) ?_
            repeat (first | go_big_quiet_step ((go_at_call 12; exact Calls.regrown_of (HCM.out _))) | quiet_step ((go_at_call 12; exact Calls.regrown_of (HCM.out _))))
            refine wpQuiet_nil ?_
            intro _ hw'
            obtain ⟨⟨nq, osq⟩, hw''⟩ := hw'
            subst hw''
            have hq := below_regrown wx nq osq
            go_wp2
            go_meet
            exact ⟨0, rfl, by omega, HG, (fun h => absurd h (by omega)), HN.out.trans (hq.mono HN.out.size)⟩
          · obtain ⟨y, hy⟩ : ∃ y, R[k]? = some y := ⟨_, List.getElem?_eq_getElem (by omega)⟩
            have HY := Lib.hid hy
            obtain ⟨g, rfl⟩ := hA0 (by omega)
            have hg : g < wr.heap.size := (HO.out.lt g rfl).2
            have hy9 : ∀ (n : Nat) (v : Value), y.enc[n]? = some v → wx.cell? ⟨g, k * 9 + n, none⟩ = some v := fun n v hv => (HN.out.cell (p := ⟨g, k * 9 + n, none⟩) hg).trans ((HO.out.cellAt (k * 9 + n) (by have := (List.getElem?_eq_some_iff.1 hv).1; rw [route_len] at this; omega)).trans (rvcell hy hv))
            obtain ⟨b, off, c', hv, _, hbB, hcell⟩ := (HL.out.below (HB.out.trans (HN.out.mono hsz))).posAt (by omega)
            injection hv with hv1 _ hv3
            subst hv1 hv3
            have f0 : wx.cell? ⟨b, off + j * 9, none⟩ = some (.int .u32 x.a) := hcell j 0 _ (rvcell HX.out rfl)
            have e0 : wx.cell? ⟨g, k * 9, none⟩ = some (.int .u32 y.a) := hy9 0 _ rfl
            have F0 := cell_regrown f0
            have E0 := cell_regrown e0
            have f1 : wx.cell? ⟨b, off + j * 9 + 1, none⟩ = some (.int .i64 x.m) := hcell j 1 _ (rvcell HX.out rfl)
            have e1 : wx.cell? ⟨g, k * 9 + 1, none⟩ = some (.int .i64 y.m) := hy9 1 _ rfl
            have F1 := cell_regrown f1
            have E1 := cell_regrown e1
            have f2 : wx.cell? ⟨b, off + j * 9 + 2, none⟩ = some (.int .u8 x.fr) := hcell j 2 _ (rvcell HX.out rfl)
            have e2 : wx.cell? ⟨g, k * 9 + 2, none⟩ = some (.int .u8 y.fr) := hy9 2 _ rfl
            have F2 := cell_regrown f2
            have E2 := cell_regrown e2
            have f3 : wx.cell? ⟨b, off + j * 9 + 3, none⟩ = some (.int .i64 x.di) := hcell j 3 _ (rvcell HX.out rfl)
            have e3 : wx.cell? ⟨g, k * 9 + 3, none⟩ = some (.int .i64 y.di) := hy9 3 _ rfl
            have F3 := cell_regrown f3
            have E3 := cell_regrown e3
            have f4 : wx.cell? ⟨b, off + j * 9 + 4, none⟩ = some (.int .i64 x.me) := hcell j 4 _ (rvcell HX.out rfl)
            have e4 : wx.cell? ⟨g, k * 9 + 4, none⟩ = some (.int .i64 y.me) := hy9 4 _ rfl
            have F4 := cell_regrown f4
            have E4 := cell_regrown e4
            have f5 : wx.cell? ⟨b, off + j * 9 + 5, none⟩ = some (.int .i64 x.ta) := hcell j 5 _ (rvcell HX.out rfl)
            have e5 : wx.cell? ⟨g, k * 9 + 5, none⟩ = some (.int .i64 y.ta) := hy9 5 _ rfl
            have F5 := cell_regrown f5
            have E5 := cell_regrown e5
            have f6 : wx.cell? ⟨b, off + j * 9 + 6, none⟩ = some (.string x.nm) := hcell j 6 _ (rvcell HX.out rfl)
            have e6 : wx.cell? ⟨g, k * 9 + 6, none⟩ = some (.string y.nm) := hy9 6 _ rfl
            have F6 := cell_regrown f6
            have E6 := cell_regrown e6
            have f7 : wx.cell? ⟨b, off + j * 9 + 7, none⟩ = some (.int .u32 x.ho) := hcell j 7 _ (rvcell HX.out rfl)
            have e7 : wx.cell? ⟨g, k * 9 + 7, none⟩ = some (.int .u32 y.ho) := hy9 7 _ rfl
            have F7 := cell_regrown f7
            have E7 := cell_regrown e7
            have f8 : wx.cell? ⟨b, off + j * 9 + 8, none⟩ = some (.bool x.dc) := hcell j 8 _ (rvcell HX.out rfl)
            have e8 : wx.cell? ⟨g, k * 9 + 8, none⟩ = some (.bool y.dc) := hy9 8 _ rfl
            have F8 := cell_regrown f8
            have E8 := cell_regrown e8
            clear hcell hy9 hy f0 e0 f1 e1 f2 e2 f3 e3 f4 e4 f5 e5 f6 e6 f7 e7 f8 e8
            have HCM := Lib.hid (fun W => refRcmp_any x y W)
            by_cases hlt2 : cmpR x y < 0
            · have HLT := Lib.hid hlt2
              go_wp2
              refine wp_region_quiet_below (by kernel_rfl) (by kernel_rfl) ?_
              repeat (first | go_big_quiet_step ((go_at_call 12; exact Calls.regrown_of (HCM.out _))) | quiet_step ((go_at_call 12; exact Calls.regrown_of (HCM.out _))))
              refine wpQuiet_nil ?_
              intro _ hw'
              obtain ⟨⟨nq, osq⟩, hw''⟩ := hw'
              subst hw''
              have hq := below_regrown wx nq osq
              go_wp2
              refine ⟨⟨k, rfl, by omega, ?_, HN.out.trans (hq.mono HN.out.size)⟩, by simp only [intOf]; omega⟩
              intro i z hi hz
              rcases Nat.eq_or_lt_of_le hi with rfl | hi
              · have := HY.out
                rw [this] at hz
                injection hz with hz
                rw [← hz]; exact HLT.out
              · exact HG.out i z hi hz
            · have HLT := Lib.hid hlt2
              go_wp2
              refine wp_region_quiet_below (by kernel_rfl) (by kernel_rfl) ?_
              repeat (first | go_big_quiet_step ((go_at_call 12; exact Calls.regrown_of (HCM.out _))) | quiet_step ((go_at_call 12; exact Calls.regrown_of (HCM.out _))))
              refine wpQuiet_nil ?_
              intro _ hw'
              obtain ⟨⟨nq, osq⟩, hw''⟩ := hw'
              subst hw''
              have hq := below_regrown wx nq osq
              go_wp2
              go_meet
              exact ⟨k + 1, rfl, by omega, HG, (fun _ => ⟨y, HY.out, by have := HLT.out; omega⟩), HN.out.trans (hq.mono HN.out.size)⟩
      case rest =>
        obtain ⟨k, rfl, hk, HG, HE, HN⟩ := hcut
        go_upto_region 8 with fail
        go_cut [45] (fun s45 wx => Hid ((s45 = .bool true ∧ x ∈ R) ∨ (s45 = .bool false ∧ (0 < k → ∃ y, R[k - 1]? = some y ∧ 0 < cmpR x y))) ∧ Hid (Below wr.heap.size wr wx))
        case first =>
          rcases k with _ | k
          · go_wp2
            refine wp_region_quiet_below (by kernel_rfl) (by kernel_rfl) ?_
            repeat (first | go_big_quiet_step ((go_at_call 12; exact Calls.regrown_of (HCM.out _))) | quiet_step ((go_at_call 12; exact Calls.regrown_of (HCM.out _))))
            refine wpQuiet_nil ?_
            intro _ hw'
            obtain ⟨⟨nq, osq⟩, hw''⟩ := hw'
            subst hw''
            have hq := below_regrown wc nq osq
            go_wp2
            go_meet
            exact ⟨.inr ⟨rfl, fun h => absurd h (by omega)⟩, HN.out.trans (hq.mono HN.out.size)⟩
          · obtain ⟨y, hy, hyx⟩ := HE.out (by omega)
            replace hy : R[k]? = some y := hy
            have HY := Lib.hid hy
            obtain ⟨g, rfl⟩ := hA0 (by omega)
            have hg : g < wr.heap.size := (HO.out.lt g rfl).2
            have hy9 : ∀ (n : Nat) (v : Value), y.enc[n]? = some v → wc.cell? ⟨g, k * 9 + n, none⟩ = some v := fun n v hv => (HN.out.cell (p := ⟨g, k * 9 + n, none⟩) hg).trans ((HO.out.cellAt (k * 9 + n) (by have := (List.getElem?_eq_some_iff.1 hv).1; rw [route_len] at this; omega)).trans (rvcell hy hv))
            obtain ⟨b, off, c', hv, _, hbB, hcell⟩ := (HL.out.below (HB.out.trans (HN.out.mono hsz))).posAt (by omega)
            injection hv with hv1 _ hv3
            subst hv1 hv3
            have f0 : wc.cell? ⟨b, off + j * 9, none⟩ = some (.int .u32 x.a) := hcell j 0 _ (rvcell HX.out rfl)
            have e0 : wc.cell? ⟨g, k * 9, none⟩ = some (.int .u32 y.a) := hy9 0 _ rfl
            have F0 := cell_regrown f0
            have E0 := cell_regrown e0
            have f1 : wc.cell? ⟨b, off + j * 9 + 1, none⟩ = some (.int .i64 x.m) := hcell j 1 _ (rvcell HX.out rfl)
            have e1 : wc.cell? ⟨g, k * 9 + 1, none⟩ = some (.int .i64 y.m) := hy9 1 _ rfl
            have F1 := cell_regrown f1
            have E1 := cell_regrown e1
            have f2 : wc.cell? ⟨b, off + j * 9 + 2, none⟩ = some (.int .u8 x.fr) := hcell j 2 _ (rvcell HX.out rfl)
            have e2 : wc.cell? ⟨g, k * 9 + 2, none⟩ = some (.int .u8 y.fr) := hy9 2 _ rfl
            have F2 := cell_regrown f2
            have E2 := cell_regrown e2
            have f3 : wc.cell? ⟨b, off + j * 9 + 3, none⟩ = some (.int .i64 x.di) := hcell j 3 _ (rvcell HX.out rfl)
            have e3 : wc.cell? ⟨g, k * 9 + 3, none⟩ = some (.int .i64 y.di) := hy9 3 _ rfl
            have F3 := cell_regrown f3
            have E3 := cell_regrown e3
            have f4 : wc.cell? ⟨b, off + j * 9 + 4, none⟩ = some (.int .i64 x.me) := hcell j 4 _ (rvcell HX.out rfl)
            have e4 : wc.cell? ⟨g, k * 9 + 4, none⟩ = some (.int .i64 y.me) := hy9 4 _ rfl
            have F4 := cell_regrown f4
            have E4 := cell_regrown e4
            have f5 : wc.cell? ⟨b, off + j * 9 + 5, none⟩ = some (.int .i64 x.ta) := hcell j 5 _ (rvcell HX.out rfl)
            have e5 : wc.cell? ⟨g, k * 9 + 5, none⟩ = some (.int .i64 y.ta) := hy9 5 _ rfl
            have F5 := cell_regrown f5
            have E5 := cell_regrown e5
            have f6 : wc.cell? ⟨b, off + j * 9 + 6, none⟩ = some (.string x.nm) := hcell j 6 _ (rvcell HX.out rfl)
            have e6 : wc.cell? ⟨g, k * 9 + 6, none⟩ = some (.string y.nm) := hy9 6 _ rfl
            have F6 := cell_regrown f6
            have E6 := cell_regrown e6
            have f7 : wc.cell? ⟨b, off + j * 9 + 7, none⟩ = some (.int .u32 x.ho) := hcell j 7 _ (rvcell HX.out rfl)
            have e7 : wc.cell? ⟨g, k * 9 + 7, none⟩ = some (.int .u32 y.ho) := hy9 7 _ rfl
            have F7 := cell_regrown f7
            have E7 := cell_regrown e7
            have f8 : wc.cell? ⟨b, off + j * 9 + 8, none⟩ = some (.bool x.dc) := hcell j 8 _ (rvcell HX.out rfl)
            have e8 : wc.cell? ⟨g, k * 9 + 8, none⟩ = some (.bool y.dc) := hy9 8 _ rfl
            have F8 := cell_regrown f8
            have E8 := cell_regrown e8
            clear hcell hy9 hy f0 e0 f1 e1 f2 e2 f3 e3 f4 e4 f5 e5 f6 e6 f7 e7 f8 e8
            have HYX := Lib.hid hyx
            clear hyx HE
            have HCM := Lib.hid (fun W => refRcmp_any x y W)
            by_cases he : cmpR x y = 0
            · have HEQ := Lib.hid he
              have he2 : (cmpR x y == 0) = true := by simp [he]
              clear he
              go_wp2
              refine wp_region_quiet_below (by kernel_rfl) (by kernel_rfl) ?_
              repeat (first | go_big_quiet_step ((go_at_call 12; exact Calls.regrown_of (HCM.out _))) | quiet_step ((go_at_call 12; exact Calls.regrown_of (HCM.out _))))
              refine wpQuiet_nil ?_
              intro _ hw'
              obtain ⟨⟨nq, osq⟩, hw''⟩ := hw'
              subst hw''
              have hq := below_regrown wc nq osq
              go_wp2
              go_meet
              exact ⟨.inl ⟨rfl, by rw [cmpR_zero.1 HEQ.out]; exact List.mem_of_getElem? HY.out⟩, HN.out.trans (hq.mono HN.out.size)⟩
            · have HEQ := Lib.hid he
              have he2 : (cmpR x y == 0) = false := by simp [he]
              clear he
              go_wp2
              refine wp_region_quiet_below (by kernel_rfl) (by kernel_rfl) ?_
              repeat (first | go_big_quiet_step ((go_at_call 12; exact Calls.regrown_of (HCM.out _))) | quiet_step ((go_at_call 12; exact Calls.regrown_of (HCM.out _))))
              refine wpQuiet_nil ?_
              intro _ hw'
              obtain ⟨⟨nq, osq⟩, hw''⟩ := hw'
              subst hw''
              have hq := below_regrown wc nq osq
              go_wp2
              go_meet
              exact ⟨.inr ⟨rfl, fun _ => ⟨y, HY.out, by have := HEQ.out; have := HYX.out; omega⟩⟩, HN.out.trans (hq.mono HN.out.size)⟩
        case rest =>
          obtain ⟨hres, HN⟩ := hcut
          clear HE
          have htk : L.take (j + 1) = L.take j ++ [x] := by rw [List.take_add_one, HX.out]; rfl
          rcases hres.out with ⟨rfl, hin⟩ | ⟨rfl, hlt3⟩
          · have HI := Lib.hid (show Sorted (L.take (j + 1)) R by rw [htk]; exact sorted_skip HS.out hin)
            clear hin htk hres
            go_wp2
            exact ⟨⟨j + 1, R, by go_num, by omega, HI, by omega, own_upR HO.out HN.out, HB.out.trans (HN.out.mono hsz)⟩, by simp only [intOf]; omega⟩
          · have HI := Lib.hid (show Sorted (L.take (j + 1)) (R.take k ++ x :: R.drop k) by rw [htk]; exact sorted_ins HS.out hk HG.out hlt3)
            clear htk hres hlt3
            rename World => wx
            have hown := own_upR HO.out HN.out
            have hbx := HB.out.trans (HN.out.mono hsz)
            have hszx := hbx.size
            clear HO HN HB HG
            have HBX := Lib.hid hbx
            clear hbx
            go_wp2_with (at_builtin; refine wpList_push9 (v := .slice A0 R.length c0) rfl _ _ 22 rfl 28 i0 _ 9 72 Try.underlying22 hi hz0 hz1 hz2 rfl (by decide) (by decide) (RouteV.enc ⟨0, 0, 0, 0, 0, 0, ByteArray.empty, 0, false⟩) rfl rfl (by simp) hown rfl (renc_one _) (by omega) hszx HBX.out (Nat.le_refl _) ?_; intro v2 w2 hown2 hb2)
            obtain ⟨A2, c2, rfl, hA2⟩ := owns_form hown2
            obtain ⟨g2, rfl⟩ := hA2 (by omega)
            obtain ⟨cur, hg2, hc2, hcm, hcs, htk, hbg⟩ := owns_block hown2
            have hsrc : ∀ i u, (rvcells (R.drop k))[i]? = some u → w2.cell? ((⟨g2, k * 9, none⟩ : Addr).add i) = some u := by
              intro i u hu
              have e : (⟨g2, k * 9, none⟩ : Addr).add i = ⟨g2, k * 9 + i, none⟩ := by simp [Addr.add]
              have hi := (List.getElem?_eq_some_iff.1 hu).1
              rw [rvcells_len, List.length_drop] at hi
              rw [e, hown2.cellAt (k * 9 + i) (by omega), List.getElem?_append_left (by rw [rvcells_len]; omega)]
              have e2 : rvcells R = rvcells (R.take k) ++ rvcells (R.drop k) := by rw [← rvcells_append, List.take_append_drop]
              rw [e2, List.getElem?_append_right (by rw [rvcells_len, List.length_take]; omega), rvcells_len, List.length_take, ← hu]
              congr 1
              omega
            have hcap : (k + 1) * 9 + (rvcells (R.drop k)).length ≤ cur.toList.length := by
              rw [rvcells_len, List.length_drop, show cur.toList.length = cur.size from Array.length_toList, hcs]; omega
            have HTK := Lib.hid htk
            have HB2 := Lib.hid hb2
            have hsz2 := hb2.size
            clear hown2 htk hb2 HBX hown
            have hwr : IntKind.i64.wrap ((k : Int) + 1) = (k : Int) + 1 := by
              simp only [IntKind.wrap, IntKind.bits, IntKind.signed]
              simp
              omega
            have hi3 : (k : Int) ≤ (R.length : Int) + 1 := by omega
            have hi0 : (0 : Int) ≤ (k : Int) + 1 := by omega
            have hne : ¬ c2 = k := by omega
            go_upto_region 10 with fail
            go_cut [] (fun wx => Hid (wx.heap[g2]? = some (.cells (splice cur.toList ((k + 1) * 9) (rvcells (R.drop k))).toArray 28 (0, 0))) ∧ Hid (Below w.heap.size w wx))
            case first =>
              by_cases hck : c2 = k + 1
              · subst hck
                obtain rfl : k = R.length := by omega
                have hpos : ¬ 0 < (rvcells (R.drop R.length)).length := by simp [rvcells]
                go_region_law (refine step_copy_K rfl (.tmp 53) (.tmp 56) 22 22 rfl 28 Try.underlying22 9 (by decide) (by kernel_rfl) (some ⟨g2, 0, none⟩) (some ⟨g2, R.length * 9, none⟩) 0 0 1 1 (by go_simp) (by go_simp) g2 ((R.length + 1) * 9) cur.toList 28 hg2 (rvcells (R.drop R.length)) (by simp [rvcells]) (fun h => absurd h hpos) hcap (rvcells_one _) w.heap.size w HB2.out.drew hbg ?_; intro w4 hg4 hb4)
                all_goals (go_wp2_with fail; go_meet; exact ⟨hg4, hb4⟩)
              · go_region_law (refine step_copy_K rfl (.tmp 53) (.tmp 56) 22 22 rfl 28 Try.underlying22 9 (by decide) (by kernel_rfl) (some ⟨g2, (k + 1) * 9, none⟩) (some ⟨g2, k * 9, none⟩) (R.length - k) (c2 - (k + 1)) (R.length + 1 - k) (c2 - k) (by go_simp) (by go_simp) g2 ((k + 1) * 9) cur.toList 28 hg2 (rvcells (R.drop k)) (by rw [rvcells_len, List.length_drop, show Nat.min (R.length + 1 - k) (R.length - k) = R.length - k from Nat.min_eq_right (by omega)]) (fun _ => ⟨rfl, _, rfl, hsrc⟩) hcap (rvcells_one _) w.heap.size w HB2.out.drew hbg ?_; intro w4 hg4 hb4)
                all_goals (go_wp2_with fail; go_meet; exact ⟨hg4, hb4⟩)
            case rest =>
              obtain ⟨hg4, hb4⟩ := hcut
              have hlen4 : (splice cur.toList ((k + 1) * 9) (rvcells (R.drop k))).length = cur.toList.length := length_splice _ _ _ hcap
              have hcl : cur.toList.length = cur.size := Array.length_toList
              have hfit : k * 9 + x.enc.length ≤ (splice cur.toList ((k + 1) * 9) (rvcells (R.drop k))).length := by rw [hlen4, hcl, hcs, route_len]; omega
              obtain ⟨b, off, c', hv, _, hbB, hcell⟩ := (HL.out.below hb4.out).posAt (by omega)
              injection hv with hv1 _ hv3
              subst hv1 hv3
              have f0 : wc.cell? ⟨b, off + j * 9, none⟩ = some (.int .u32 x.a) := hcell j 0 _ (rvcell HX.out rfl)
              have f1 : wc.cell? ⟨b, off + j * 9 + 1, none⟩ = some (.int .i64 x.m) := hcell j 1 _ (rvcell HX.out rfl)
              have f2 : wc.cell? ⟨b, off + j * 9 + 2, none⟩ = some (.int .u8 x.fr) := hcell j 2 _ (rvcell HX.out rfl)
              have f3 : wc.cell? ⟨b, off + j * 9 + 3, none⟩ = some (.int .i64 x.di) := hcell j 3 _ (rvcell HX.out rfl)
              have f4 : wc.cell? ⟨b, off + j * 9 + 4, none⟩ = some (.int .i64 x.me) := hcell j 4 _ (rvcell HX.out rfl)
              have f5 : wc.cell? ⟨b, off + j * 9 + 5, none⟩ = some (.int .i64 x.ta) := hcell j 5 _ (rvcell HX.out rfl)
              have f6 : wc.cell? ⟨b, off + j * 9 + 6, none⟩ = some (.string x.nm) := hcell j 6 _ (rvcell HX.out rfl)
              have f7 : wc.cell? ⟨b, off + j * 9 + 7, none⟩ = some (.int .u32 x.ho) := hcell j 7 _ (rvcell HX.out rfl)
              have f8 : wc.cell? ⟨b, off + j * 9 + 8, none⟩ = some (.bool x.dc) := hcell j 8 _ (rvcell HX.out rfl)
              clear hcell
              have hi5 : (k : Int) < (R.length : Int) + 1 := by omega
              go_wp2_with (refine wpList_store_splice rfl _ _ 28 rfl 9 Try.sizeOf28 g2 (k * 9) rfl (.agg x.enc.toArray) rfl _ 28 hg4.out x.enc rfl rfl hfit (renc_one x) w.heap.size w hb4.out hbg ?_; intro w5 hg5 hb5)
              have hput := put_cells9 x hk _ rfl HTK.out
              have hlen5 : (splice (splice cur.toList ((k + 1) * 9) (rvcells (R.drop k))) (k * 9) x.enc).length = cur.toList.length := by rw [length_splice _ _ _ hfit, hlen4]
              have own5 := owns_of_block (size := 9) (n := R.length + 1) (xs := rvcells (R.take k ++ x :: R.drop k)) hg5.out hc2 hcm (by rw [List.size_toArray, hlen5, hcl, hcs]) (by simpa using hput) (by rw [rvcells_len, ins_len hk]) hbg
              have hil := ins_len (x := x) hk
              refine ⟨⟨j + 1, R.take k ++ x :: R.drop k, by go_num, by omega, HI, by omega, ?_, hb5⟩, by simp only [intOf]; omega⟩
              rw [hil]
              exact own5
    · obtain rfl : j = L.length := by omega
      have hI : ¬ (L.length : Int) < (L.length : Int) := by omega
      have hS : Sorted L R := by have := HS.out; rwa [List.take_length] at this
      obtain ⟨A0, c0, rfl, hA0⟩ := owns_form HO.out
      go_wp2
      go_ret
      exact ⟨_, R, rfl, hS, hRj, HO.out, HB.out⟩
end Go.Proofs.Ytlhafehhkjjchaa

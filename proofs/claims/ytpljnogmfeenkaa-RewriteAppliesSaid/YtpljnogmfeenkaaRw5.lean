/-
  Walks over the layer of rewrites: First (written by wip/gen/genrw5.py).
-/
import Derived.Test.YtpljnogmfeenkaaRw4
import Derived.Great.Walk
namespace Go.Proofs.Ytpljnogmfeenkaa
open Go Go.RowKit Go.Sort

/-- What the closure of First leaves. -/
def ClosPost (p : Bool) (i a0 : Int) (ga : Nat) (w : World) (e : Ending) (w' : World) : Prop :=
  e = .returned (.bool (!p)) ∧ w'.heap[ga]? = some (.cells #[.int .i64 (bif p then i else a0)] 3 (0, 0)) ∧ w.grownBy w' (some ga)

theorem one_cell {w : World} {g : Nat} {u : Value} {t : TypeId} (h : w.heap[g]? = some (.cells #[u] t (0, 0))) : w.cell? ⟨g, 0, none⟩ = some u ∧ w.frozen? ⟨g, 0, none⟩ = false :=
  ⟨cell_of_row w g 0 _ t (0, 0) h, by simp [World.frozen?, h]⟩
theorem set_one {w : World} {g : Nat} {a u : Value} {t : TypeId} (h : w.heap[g]? = some (.cells #[a] t (0, 0))) : (w.setCell ⟨g, 0, none⟩ u).heap[g]? = some (.cells #[u] t (0, 0)) := set_at h

set_option maxRecDepth 100000 in
set_option maxHeartbeats 1000000 in
theorem firstClos_any (nm : ByteArray) (L : List RuleV) (v : Value) (h : HeaderV) (i a0 : Int) (gh ga : Nat) (w : World) (hr : Rd w w.heap.size 10 v L.length (rcells L)) (hE : filtE L = 0)
    (hh : w.heap[gh]? = some (.cells #[.int .u32 h.src, .int .u32 h.dst, .int .u8 h.proto, .int .u16 h.sp, .int .u16 h.dp] 45 (0, 0))) (ha : w.heap[ga]? = some (.cells #[.int .i64 a0] 3 (0, 0))) :
    Calls Try.prog 107 #[.int .i64 i, .agg #[.string nm, v], .pointer (some ⟨gh, 0, none⟩), .pointer (some ⟨ga, 0, none⟩)] w fun e w' => ClosPost (permN L h) i a0 ga w e w' := by
  have hW := below1 w (.cells #[.string nm, v] 34)
  have hcon := Lib.hid (permits_ok nm L v h _ ((hr.below hW).mono hW.size) hE)
  have lh := lt_of_block hh
  have la := lt_of_block ha
  have nh : gh ≠ w.heap.size := by omega
  have e0 := cell_of_row w gh 0 _ _ (0, 0) hh
  have e1 := cell_of_row w gh 1 _ _ (0, 0) hh
  have e2 := cell_of_row w gh 2 _ _ (0, 0) hh
  have e3 := cell_of_row w gh 3 _ _ (0, 0) hh
  have e4 := cell_of_row w gh 4 _ _ (0, 0) hh
  have HA := Lib.hid ha
  obtain ⟨A, c, rfl, hc⟩ := hr.form
  clear hr hh ha
  cases hp : permN L h with
  | true =>
    rw [hp] at hcon
    go_enter Try.func107, Try.ntmps107
    go_wp2_with fail
    refine hcon.out.mono ?_
    rintro e w1 ⟨rfl, hb⟩
    have HK := Lib.hid (blk_below hb ((Below.heap_alloc w _ ga la).trans HA.out))
    obtain ⟨k0, k1⟩ := one_cell HK.out
    have hb' := hW.trans (hb.mono hW.size)
    clear hb
    go_wp2
    go_ret
    exact ⟨rfl, set_one HK.out, only_setCell (only_of_below hb' _) (.inl rfl) _⟩
  | false =>
    rw [hp] at hcon
    go_enter Try.func107, Try.ntmps107
    go_wp2_with fail
    refine hcon.out.mono ?_
    rintro e w1 ⟨rfl, hb⟩
    have HK := Lib.hid (blk_below hb ((Below.heap_alloc w _ ga la).trans HA.out))
    have hb' := hW.trans (hb.mono hW.size)
    clear hb
    go_wp2
    go_ret
    exact ⟨rfl, HK.out, only_of_below hb' _⟩

/-- Does a rewrite apply? -/
def appB (Fs : List FiltV) (dest : Bool) (h : HeaderV) (x : RewV) : Bool := x.dest == dest && namP Fs x.nm h
def EachPost (r : Int) (B0 ga : Nat) (w : World) (e : Ending) (w' : World) : Prop :=
  e = .returned (.tuple #[]) ∧ w'.heap[ga]? = some (.cells #[.int .i64 r] 3 (0, 0)) ∧ Below B0 w w'
theorem errX_fine {Fs : List FiltV} {x : RewV} (h : errX Fs x = 0) : namB Fs x.nm = true ∧ filtE (namL Fs x.nm) = 0 := by
  unfold errX at h
  by_cases h1 : namB Fs x.nm = false
  · rw [if_pos h1] at h; omega
  · rw [if_neg h1] at h
    by_cases h2 : filtE (namL Fs x.nm) = 0
    · exact ⟨by simpa using h1, h2⟩
    · rw [if_neg h2] at h; omega

set_option maxRecDepth 100000 in
set_option maxHeartbeats 2000000 in
theorem each_any (l : List RewV) (vl : Value) (Fs : List FiltV) (v : Value) (dest : Bool) (h : HeaderV) (B0 gh ga : Nat) (w : World) (hl : Rd w B0 3 vl l.length (wcells l)) (hF : FsAt w B0 v Fs) (hlen : Fs.length ≤ 9223372036854775807) (hll : l.length ≤ 256)
    (hok : ∀ x ∈ l, errX Fs x = 0) (hB0 : B0 ≤ w.heap.size) (hBa : B0 ≤ ga) (hne : gh ≠ ga)
    (hh : w.heap[gh]? = some (.cells #[.int .u32 h.src, .int .u32 h.dst, .int .u8 h.proto, .int .u16 h.sp, .int .u16 h.dp] 45 (0, 0))) (ha : w.heap[ga]? = some (.cells #[.int .i64 (-1)] 3 (0, 0))) :
    Calls Try.prog 106 #[vl, v, .bool dest, .func (.func 107) #[] #[.pointer (some ⟨gh, 0, none⟩), .pointer (some ⟨ga, 0, none⟩)]] w fun e w' => EachPost (idxP (appB Fs dest h) l) B0 ga w e w' := by
  have HF := Lib.hid hF
  have HL := Lib.hid hl
  have HH := Lib.hid hh
  have HA := Lib.hid ha
  obtain ⟨A, c, rfl, hc⟩ := hF.1.form
  obtain ⟨A', cl, rfl, hcl⟩ := hl.form
  clear hF hl hh ha
  go_enter Try.func106, Try.ntmps106
  go_wp2
  go_loopw [14] (fun i wr => ∃ k : Nat, i = .int .i64 k ∧ k ≤ l.length ∧ Hid (∀ (j : Nat) (x : RewV), j < k → l[j]? = some x → appB Fs dest h x = false) ∧ Hid (wr.heap[gh]? = some (.cells #[.int .u32 h.src, .int .u32 h.dst, .int .u8 h.proto, .int .u16 h.sp, .int .u16 h.dp] 45 (0, 0))) ∧ Hid (wr.heap[ga]? = some (.cells #[.int .i64 (-1)] 3 (0, 0))) ∧ Below B0 w wr) (fun i _ => l.length - (intOf i).toNat)
  case atStart => exact ⟨0, rfl, by omega, fun j r hj => absurd hj (by omega), HH.out, HA.out, Below.refl _ _⟩
  case round =>
    obtain ⟨k, rfl, hk, hno, hgh, hga, hnx⟩ := hrel
    have hsz := hnx.size
    by_cases hlt : k < l.length
    · have hI : (k : Int) < (l.length : Int) := by omega
      obtain ⟨x, hx⟩ : ∃ x, l[k]? = some x := ⟨_, List.getElem?_eq_getElem hlt⟩
      obtain ⟨b, off, c', hv, _, hbB, hcell⟩ := HL.out.posAt (by omega)
      injection hv with hv1 _ hv3
      subst hv1 hv3
      have c0 : wr.cell? ⟨b, off + k * 3, none⟩ = some (.bool x.dest) := (hnx.cell (p := ⟨b, off + k * 3, none⟩) hbB).trans (hcell k 0 _ (wcell hx rfl))
      have c1 : wr.cell? ⟨b, off + k * 3 + 1, none⟩ = some (.string x.nm) := (hnx.cell (p := ⟨b, off + k * 3 + 1, none⟩) hbB).trans (hcell k 1 _ (wcell hx rfl))
      have c2 : wr.cell? ⟨b, off + k * 3 + 2, none⟩ = some (.int .u32 x.too) := (hnx.cell (p := ⟨b, off + k * 3 + 2, none⟩) hbB).trans (hcell k 2 _ (wcell hx rfl))
      clear hcell
      obtain ⟨D, hD⟩ : ∃ D, x.dest = D := ⟨_, rfl⟩
      rw [hD] at c0
      have hW := below1 wr (.cells #[.bool D, .string x.nm, .int .u32 x.too] 77)
      have hnW := hnx.alloc (by omega) (.cells #[.bool D, .string x.nm, .int .u32 x.too] 77)
      have hnext : appB Fs dest h x = false → Hid (∀ (j : Nat) (y : RewV), j < k + 1 → l[j]? = some y → appB Fs dest h y = false) := fun h0 j y hj hy => by
        by_cases hjk : j = k
        · subst hjk
          rw [hx] at hy
          injection hy with hy
          rw [← hy]; exact h0
        · exact hno.out j y (by omega) hy
      have HN := Lib.hid hnext
      clear hnext
      have hgh1 := Lib.hid (blk_below hW hgh.out)
      have hga1 := Lib.hid (blk_below hW hga.out)
      by_cases hd : D = dest
      · have hd' := hd.symm
        subst hd'
        clear hd
        obtain ⟨n1, n2⟩ := errX_fine (hok x (List.mem_of_getElem? hx))
        have hcon := Lib.hid (rnamed_any Fs (.slice A Fs.length c) x.nm _ ((HF.out.below hnW).mono (by simp; omega)) hlen)
        have HE := Lib.hid n2
        have hap : Hid (appB Fs dest h x = permN (namL Fs x.nm) h) := by unfold Hid appB namP; simp [hD]
        clear n1 n2 hD
        go_wp2_with fail
        refine hcon.out.mono ?_
        rintro e w1 ⟨A1, c1', rfl, hr1, hb1, hn1⟩
        have hb2 := hb1.alloc hb1.size (.cells #[.string (namNm Fs x.nm), .slice A1 (namL Fs x.nm).length c1'] 34)
        have hnw2 := hnW.trans (hb2.mono (by simp; omega))
        have hgh2 := Lib.hid (blk_below hb2 hgh1.out)
        have hga2 := Lib.hid (blk_below hb2 hga1.out)
        have hcl := Lib.hid (firstClos_any (namNm Fs x.nm) (namL Fs x.nm) _ h k (-1) gh ga _ ((hr1.below (below1 w1 (.cells #[.string (namNm Fs x.nm), .slice A1 (namL Fs x.nm).length c1'] 34))).mono (by simp)) HE.out hgh2.out hga2.out)
        clear hr1 hb1 hn1
        cases hp : permN (namL Fs x.nm) h with
        | true =>
          rw [hp] at hcl hap
          have hR : Hid (idxP (appB Fs dest h) l = k) := idxP_hit _ l k x hx hap.out hno.out
          clear hp
          go_wp2_with fail
          refine hcl.out.mono ?_
          rintro e w3 ⟨rfl, hga3, hg3⟩
          have hnw3 := hnw2.grown hg3 (by have := hnw2.size; omega) (fun k hk => by injection hk with hk; omega)
          have HG3 := Lib.hid hga3
          clear hga3 hg3
          go_wp2
          exact bodyPost_ret (results_none Try.results106 _ _ _) rfl ⟨rfl, by rw [hR.out]; exact HG3.out, hnw3⟩
        | false =>
          rw [hp] at hcl hap
          clear hp
          go_wp2_with fail
          refine hcl.out.mono ?_
          rintro e w3 ⟨rfl, hga3, hg3⟩
          have hnw3 := hnw2.grown hg3 (by have := hnw2.size; omega) (fun k hk => by injection hk with hk; omega)
          have hgh3 := (hg3.block gh (lt_of_block hgh2.out) (by simp [hne])).trans hgh2.out
          have HG3 := Lib.hid hga3
          have HH3 := Lib.hid hgh3
          clear hga3 hgh3 hg3
          go_wp2
          exact ⟨⟨k + 1, by go_num, by omega, HN.out hap.out, HH3.out, HG3.out, hnw3⟩, by simp only [intOf]; omega⟩
      · have hap : Hid (appB Fs dest h x = false) := by unfold Hid appB; simp [hD, hd]
        clear hD
        obtain rfl : D = !dest := by cases D <;> cases dest <;> simp_all
        clear hd
        go_wp2
        exact ⟨⟨k + 1, by go_num, by omega, HN.out hap.out, hgh1.out, hga1.out, hnW⟩, by simp only [intOf]; omega⟩
    · have hR : Hid (idxP (appB Fs dest h) l = -1) := idxP_miss _ l (fun j x hx => hno.out j x (by have := (List.getElem?_eq_some_iff.1 hx).1; omega) hx)
      go_wp2
      exact Great.bodyPost_end0 Try.results106 rfl ⟨rfl, by rw [hR.out]; exact hga.out, hnx⟩

end Go.Proofs.Ytpljnogmfeenkaa

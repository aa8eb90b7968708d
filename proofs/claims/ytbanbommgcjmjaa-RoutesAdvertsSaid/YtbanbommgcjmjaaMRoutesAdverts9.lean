/-
  Joined texts: Ra12.
-/
import Derived.Test.YtbanbommgcjmjaaMRoutesAdverts8
/-
  slices.CompactFunc at adverts (written by wip/gen/genra12.py).
-/
namespace Go.Proofs.Ytbanbommgcjmjaa
open Go Go.RowKit Go.Lib Go.Sort

/-- clear, at elements of k cells, into a row that is known whole: only the row's own block turns. -/
theorem wpList_clear_G {P : Program} {w : World} {ops : Array Oper} {rest : List Oper} {o : Oper} {a : Act} {Q : Exit → Act → World → Prop} (hgd : o.guard = none) (s : Operand) (T : TypeId)
    (ho : o.op = .call { callee := .builtin .clear, args := #[s], argTypes := #[T] }) (elem : TypeId) (ht : P.underlying T = some (.slice elem)) (z : Value) (hv : ∀ w, (zeroValue elem).run P w = .ok z w) (h1 : ∀ v ∈ z.cells.toList, v.oneCell' = true)
    (sp : Option Addr) (sLen sCap : Nat) (hs : a.eval s = .slice sp sLen sCap) (hp : 0 < sLen) (g off : Nat) (hsp : sp = some ⟨g, off, none⟩)
    (cur : List Value) (ty : TypeId) (hg : w.heap[g]? = some (.cells cur.toArray ty (0, 0))) (zs : List Value) (hzs : (Builtin.zeroCells z.cells sLen).toList = zs) (hfit : off + zs.length ≤ cur.length)
    (h : ∀ w', Hid (w'.heap[g]? = some (.cells (splice cur off zs).toArray ty (0, 0))) → w.grownBy w' (some g) → wpList P ops Q rest (a.put o.dst (.tuple #[])) w') : wpList P ops Q (o :: rest) a w := by
  subst hsp hzs
  refine wpList_plain hgd fun K hK => ?_
  have hr := run_clear_row (P := P) w T elem o.type z ht hv h1 g off sLen sCap hp cur.toArray ty hg (by simpa using hfit)
  unfold Oper.wp
  simp [execOp, ho, resolve, invoke, builtin, hs, hr, Result.andThen]
  exact hK _ _ (h _ (show _ = _ by simpa [splice] using setRow_heap w g _ _ ty _ hg) (grown_setRow _ _ _))
open Classical in
/-- What is left of the first n, runs of equals being one. -/
noncomputable def ddA (d : List AdX) : Nat → List AdX
  | 0 => []
  | n + 1 => if n ≠ 0 ∧ (d[n]?).map AdX.v = (d[n - 1]?).map AdX.v then ddA d n else ddA d n ++ (d[n]?).toList
theorem ddA_len (d : List AdX) : ∀ n, (ddA d n).length ≤ n
  | 0 => Nat.le_refl _
  | n + 1 => by
    have := ddA_len d n
    unfold ddA
    split
    · omega
    · cases d[n]? <;> simp <;> omega
theorem ddA_same {d : List AdX} {n : Nat} (h : n ≠ 0) (he : (d[n]?).map AdX.v = (d[n - 1]?).map AdX.v) : ddA d (n + 1) = ddA d n := by rw [ddA, if_pos ⟨h, he⟩]
theorem ddA_new {d : List AdX} {n : Nat} {x : AdX} (hx : d[n]? = some x) (he : n ≠ 0 → (d[n]?).map AdX.v ≠ (d[n - 1]?).map AdX.v) : ddA d (n + 1) = ddA d n ++ [x] := by
  rw [ddA, if_neg (fun h => he h.1 h.2), hx]; rfl
theorem ddA_all {d : List AdX} : ∀ {k : Nat}, k ≤ d.length → (∀ i, 1 ≤ i → i < k → (d[i]?).map AdX.v ≠ (d[i - 1]?).map AdX.v) → ddA d k = d.take k
  | 0, _, _ => by simp [ddA]
  | k + 1, hk, h => by
    have hx := List.getElem?_eq_getElem (l := d) (i := k) (by omega)
    rw [ddA_new hx (fun h0 => h k (by omega) (by omega)), ddA_all (by omega) (fun i h1 h2 => h i h1 (by omega)), List.take_add_one, hx]
    rfl
theorem ddA_mem {d : List AdX} : ∀ n, ∀ x ∈ ddA d n, x ∈ d
  | 0, x, h => by simp [ddA] at h
  | n + 1, x, h => by
    unfold ddA at h
    split at h
    · exact ddA_mem n x h
    · rcases List.mem_append.1 h with h | h
      · exact ddA_mem n x h
      · exact List.mem_of_getElem? (i := n) (by simpa using h)
theorem ddA_sorted {d : List AdX} (hd : d.Pairwise (fun x y => cmpA x.v y.v ≤ 0)) : ∀ n, n ≤ d.length → UpA ((ddA d n).map AdX.v) ∧ ∀ x, x ∈ (ddA d n).map AdX.v ↔ x ∈ (d.take n).map AdX.v
  | 0, _ => ⟨List.Pairwise.nil, fun x => by simp [ddA]⟩
  | n + 1, hn => by
    obtain ⟨h1, h2⟩ := ddA_sorted hd n (by omega)
    obtain ⟨x, hx⟩ : ∃ x, d[n]? = some x := ⟨_, List.getElem?_eq_getElem (by omega)⟩
    have hx' := List.getElem?_eq_some_iff.1 hx
    have htk : d.take (n + 1) = d.take n ++ [x] := by rw [List.take_add_one, hx]; rfl
    by_cases he : n ≠ 0 ∧ (d[n]?).map AdX.v = (d[n - 1]?).map AdX.v
    · rw [ddA_same he.1 he.2]
      refine ⟨h1, fun y => ?_⟩
      rw [h2, htk, List.map_append, List.mem_append]
      constructor
      · exact .inl
      · rintro (h | h)
        · exact h
        · have h0 := he.1
          have e2 := he.2
          rw [hx] at e2
          obtain ⟨p, hp⟩ : ∃ p, d[n - 1]? = some p := ⟨_, List.getElem?_eq_getElem (by omega)⟩
          rw [hp] at e2
          injection e2 with e2
          simp only [List.map_cons, List.map_nil, List.mem_singleton] at h
          rw [h, e2]
          exact List.mem_map_of_mem (List.mem_of_getElem? (i := n - 1) (by rw [List.getElem?_take_of_lt (by omega)]; exact hp))
    · rw [ddA_new hx (fun h0 h3 => he ⟨h0, h3⟩), List.map_append]
      refine ⟨List.pairwise_append.2 ⟨h1, List.pairwise_singleton _ _, fun y hy z hz => ?_⟩, fun y => ?_⟩
      · simp only [List.map_cons, List.map_nil, List.mem_singleton] at hz
        subst hz
        obtain ⟨u, hu, rfl⟩ := List.mem_map.1 ((h2 y).1 hy)
        obtain ⟨i, hi, e⟩ := List.getElem_of_mem hu
        have hin : i < n := by simp at hi; omega
        rw [List.getElem_take] at e
        obtain ⟨p, hp⟩ : ∃ p, d[n - 1]? = some p := ⟨_, List.getElem?_eq_getElem (by omega)⟩
        have hp' := List.getElem?_eq_some_iff.1 hp
        have hpz : cmpA p.v x.v ≤ 0 := by
          have := List.pairwise_iff_getElem.1 hd (n - 1) n hp'.1 hx'.1 (by omega)
          rw [hp'.2, hx'.2] at this
          exact this
        have hne : cmpA p.v x.v ≠ 0 := fun h => he ⟨by omega, by rw [hx, hp, Option.map_some, Option.map_some, cmpA_zero.1 h]⟩
        rcases Nat.eq_or_lt_of_le (show i ≤ n - 1 by omega) with e2 | e2
        · have : u = p := by rw [← e, ← hp'.2]; congr 1
          rw [this]; omega
        · have := List.pairwise_iff_getElem.1 hd i (n - 1) (by omega) hp'.1 e2
          rw [e, hp'.2] at this
          exact ord3_A.lt' this (by omega)
      · rw [htk, List.mem_append, List.map_append, List.mem_append, h2]
theorem take_spliceA {α : Type} {L : List α} {off m : Nat} {cs : List α} (h : off + cs.length ≤ L.length) (hm : m = off + cs.length) : (splice L off cs).take m = L.take off ++ cs := by
  unfold splice
  have e : (L.take off ++ cs).length = m := by rw [List.length_append, List.length_take]; omega
  rw [← List.append_assoc, List.take_left' e]
theorem splice_getA {α : Type} {L : List α} {off j : Nat} {cs : List α} (h : off + cs.length ≤ L.length) (hj : off + cs.length ≤ j) : (splice L off cs)[j]? = L[j]? := by
  unfold splice
  rw [List.getElem?_append_right (by rw [List.length_take]; omega), List.getElem?_append_right (by rw [List.length_take]; omega), List.getElem?_drop]
  congr 1
  rw [List.length_take]; omega
theorem take_splice_lowA {α : Type} {L : List α} {off m : Nat} {cs : List α} (h : off ≤ L.length) (hm : m = off) : (splice L off cs).take m = L.take off := by
  unfold splice
  subst hm
  rw [List.take_left' (by rw [List.length_take]; omega)]
theorem Try.zeroAdvert (w : World) : (zeroValue 36).run Try.prog w = .ok (.agg #[.int .u32 0, .int .i64 0, .int .u32 0, .int .i64 0, .int .i64 0, .slice none 0 0, .slice none 0 0, .int .u32 0, .int .u32 0, .bool false, .int .u32 0, .slice none 0 0, .int .i64 0]) w := by
  obtain ⟨i0, hi, hz0, _, _⟩ := info_parts Try.infoAdvert
  simp [zeroValue, typeInfo, hi, hz0]
theorem zeroA_len (n : Nat) : (Builtin.zeroCells (Value.agg #[.int .u32 0, .int .i64 0, .int .u32 0, .int .i64 0, .int .i64 0, .slice none 0 0, .slice none 0 0, .int .u32 0, .int .u32 0, .bool false, .int .u32 0, .slice none 0 0, .int .i64 0]).cells n).toList.length = n * 13 := by
  simp [Builtin.zeroCells, Value.cells]
set_option maxRecDepth 100000 in
set_option maxHeartbeats 8000000 in
theorem compactA_any (d : List AdX) (v : Value) (base s : Nat) (w : World) (hown : w.ownsRow base 36 13 v d.length (adcells d)) (hG : ∀ y ∈ d, AdG w v.ownBlock s y) (hlen : d.length ≤ 549755813888) :
    Calls Try.prog 35 #[v, .func (.func 36) #[] #[]] w fun e w' =>
      ∃ v', e = .returned v' ∧ v'.ownBlock = v.ownBlock ∧ w'.ownsRow base 36 13 v' (ddA d d.length).length (adcells (ddA d d.length)) ∧ w.grownBy w' v.ownBlock := by
  obtain ⟨A, c, rfl, hA⟩ := owns_form hown
  have HO := Lib.hid hown
  have HGA := Lib.hid hG
  clear hown hG
  go_enter Try.func35, Try.ntmps35
  by_cases h2 : d.length < 2
  · have hI : (d.length : Int) < 2 := by omega
    have hdd : ddA d d.length = d := by rw [ddA_all (Nat.le_refl _) (fun i h1 h3 => by omega), List.take_length]
    go_wp2
    go_ret
    exact ⟨_, rfl, rfl, by first | exact HO.out | (rw [hdd]; exact HO.out), grown_refl _ _⟩
  · have hI : ¬ (d.length : Int) < 2 := by omega
    obtain ⟨g, rfl⟩ := hA (by omega)
    have hg : g < w.heap.size := (HO.out.lt g rfl).2
    have hnc : d.length ≤ c := by obtain ⟨cur, _, h, _⟩ := owns_block HO.out; exact h
    go_wp2
    go_loopw [5] (fun i wx => ∃ k : Nat, i = .int .i64 k ∧ 1 ≤ k ∧ k ≤ d.length ∧ Hid (∀ i, 1 ≤ i → i < k → (d[i]?).map AdX.v ≠ (d[i - 1]?).map AdX.v) ∧ Hid (Below w.heap.size w wx)) (fun i _ => d.length - (intOf i).toNat)
    case atStart => exact ⟨1, rfl, by omega, by omega, (fun i h1 h3 => absurd h3 (by omega)), Below.refl _ _⟩
    case round =>
      obtain ⟨k, rfl, hk1, hk, HD, HN⟩ := hrel
      rename World => wx
      by_cases hlt : k < d.length
      · have hJ : (k : Int) < (d.length : Int) := by omega
        obtain ⟨x, hx⟩ : ∃ x, d[k]? = some x := ⟨_, List.getElem?_eq_getElem hlt⟩
        obtain ⟨y, hy⟩ : ∃ y, d[k - 1]? = some y := ⟨_, List.getElem?_eq_getElem (by omega)⟩
        have hc9 : ∀ (j n : Nat) (z : AdX) (v : Value), d[j]? = some z → z.enc[n]? = some v → wx.cell? ⟨g, j * 13 + n, none⟩ = some v := fun j n z v hz hv => (HN.out.cell (p := ⟨g, j * 13 + n, none⟩) hg).trans ((HO.out.cellAt (j * 13 + n) (by have := (List.getElem?_eq_some_iff.1 hv).1; rw [ad_len] at this; have := (List.getElem?_eq_some_iff.1 hz).1; omega)).trans (adcell hz hv))
        have f0 : wx.cell? ⟨g, k * 13, none⟩ = some (.int .u32 x.v.a) := hc9 k 0 x _ hx rfl
        have e0 : wx.cell? ⟨g, (k - 1) * 13, none⟩ = some (.int .u32 y.v.a) := hc9 (k - 1) 0 y _ hy rfl
        have F0 := cell_regrown f0
        have E0 := cell_regrown e0
        have f1 : wx.cell? ⟨g, k * 13 + 1, none⟩ = some (.int .i64 x.v.m) := hc9 k 1 x _ hx rfl
        have e1 : wx.cell? ⟨g, (k - 1) * 13 + 1, none⟩ = some (.int .i64 y.v.m) := hc9 (k - 1) 1 y _ hy rfl
        have F1 := cell_regrown f1
        have E1 := cell_regrown e1
        have f2 : wx.cell? ⟨g, k * 13 + 2, none⟩ = some (.int .u32 x.v.ho) := hc9 k 2 x _ hx rfl
        have e2 : wx.cell? ⟨g, (k - 1) * 13 + 2, none⟩ = some (.int .u32 y.v.ho) := hc9 (k - 1) 2 y _ hy rfl
        have F2 := cell_regrown f2
        have E2 := cell_regrown e2
        have f3 : wx.cell? ⟨g, k * 13 + 3, none⟩ = some (.int .i64 x.v.pf) := hc9 k 3 x _ hx rfl
        have e3 : wx.cell? ⟨g, (k - 1) * 13 + 3, none⟩ = some (.int .i64 y.v.pf) := hc9 (k - 1) 3 y _ hy rfl
        have F3 := cell_regrown f3
        have E3 := cell_regrown e3
        have f4 : wx.cell? ⟨g, k * 13 + 4, none⟩ = some (.int .i64 x.v.me) := hc9 k 4 x _ hx rfl
        have e4 : wx.cell? ⟨g, (k - 1) * 13 + 4, none⟩ = some (.int .i64 y.v.me) := hc9 (k - 1) 4 y _ hy rfl
        have F4 := cell_regrown f4
        have E4 := cell_regrown e4
        have f5 : wx.cell? ⟨g, k * 13 + 5, none⟩ = some x.p := hc9 k 5 x _ hx rfl
        have e5 : wx.cell? ⟨g, (k - 1) * 13 + 5, none⟩ = some y.p := hc9 (k - 1) 5 y _ hy rfl
        have F5 := cell_regrown f5
        have E5 := cell_regrown e5
        have f6 : wx.cell? ⟨g, k * 13 + 6, none⟩ = some x.o := hc9 k 6 x _ hx rfl
        have e6 : wx.cell? ⟨g, (k - 1) * 13 + 6, none⟩ = some y.o := hc9 (k - 1) 6 y _ hy rfl
        have F6 := cell_regrown f6
        have E6 := cell_regrown e6
        have f7 : wx.cell? ⟨g, k * 13 + 7, none⟩ = some (.int .u32 x.v.pe) := hc9 k 7 x _ hx rfl
        have e7 : wx.cell? ⟨g, (k - 1) * 13 + 7, none⟩ = some (.int .u32 y.v.pe) := hc9 (k - 1) 7 y _ hy rfl
        have F7 := cell_regrown f7
        have E7 := cell_regrown e7
        have f8 : wx.cell? ⟨g, k * 13 + 8, none⟩ = some (.int .u32 x.v.id) := hc9 k 8 x _ hx rfl
        have e8 : wx.cell? ⟨g, (k - 1) * 13 + 8, none⟩ = some (.int .u32 y.v.id) := hc9 (k - 1) 8 y _ hy rfl
        have F8 := cell_regrown f8
        have E8 := cell_regrown e8
        have f9 : wx.cell? ⟨g, k * 13 + 9, none⟩ = some (.bool x.v.ex) := hc9 k 9 x _ hx rfl
        have e9 : wx.cell? ⟨g, (k - 1) * 13 + 9, none⟩ = some (.bool y.v.ex) := hc9 (k - 1) 9 y _ hy rfl
        have F9 := cell_regrown f9
        have E9 := cell_regrown e9
        have f10 : wx.cell? ⟨g, k * 13 + 10, none⟩ = some (.int .u32 x.v.og) := hc9 k 10 x _ hx rfl
        have e10 : wx.cell? ⟨g, (k - 1) * 13 + 10, none⟩ = some (.int .u32 y.v.og) := hc9 (k - 1) 10 y _ hy rfl
        have F10 := cell_regrown f10
        have E10 := cell_regrown e10
        have f11 : wx.cell? ⟨g, k * 13 + 11, none⟩ = some x.l := hc9 k 11 x _ hx rfl
        have e11 : wx.cell? ⟨g, (k - 1) * 13 + 11, none⟩ = some y.l := hc9 (k - 1) 11 y _ hy rfl
        have F11 := cell_regrown f11
        have E11 := cell_regrown e11
        have f12 : wx.cell? ⟨g, k * 13 + 12, none⟩ = some (.int .i64 x.v.ss) := hc9 k 12 x _ hx rfl
        have e12 : wx.cell? ⟨g, (k - 1) * 13 + 12, none⟩ = some (.int .i64 y.v.ss) := hc9 (k - 1) 12 y _ hy rfl
        have F12 := cell_regrown f12
        have E12 := cell_regrown e12
        have HX := Lib.hid hx
        have HY := Lib.hid hy
        clear hc9 hx hy f0 e0 f1 e1 f2 e2 f3 e3 f4 e4 f5 e5 f6 e6 f7 e7 f8 e8 f9 e9 f10 e10 f11 e11 f12 e12
        have hxok := ((HGA.out x (List.mem_of_getElem? HX.out)).next HN.out).ok
        have hyok := ((HGA.out y (List.mem_of_getElem? HY.out)).next HN.out).ok
        by_cases he : x.v = y.v
        · have hEQ := Lib.hid (fun W (hW : Below wx.heap.size wx W) => eqL1_yes (hxok.next hW) (hyok.next hW) he)
          have HE := Lib.hid he
          clear he hxok hyok
          go_wp2
          refine wp_region_quiet_below (by kernel_rfl) (by kernel_rfl) ?_
          repeat (first | go_big_quiet_step ((go_at_call 36; exact Calls.regrown_of (hEQ.out _ (below_regrown _ _ _)))) | quiet_step ((go_at_call 36; exact Calls.regrown_of (hEQ.out _ (below_regrown _ _ _)))))
          refine wpQuiet_nil ?_
          intro _ hw'
          obtain ⟨⟨nq, osq⟩, hw''⟩ := hw'
          subst hw''
          have hq := below_regrown wx nq osq
          have HQ := Lib.hid (HN.out.trans (hq.mono HN.out.size))
          have hown3 := owns_kept_none HO.out (only_of_below HQ.out none)
          obtain ⟨cur0, hg0, _, hcm, hcs, ht0, hbg⟩ := owns_block hown3
          have hm0 : (ddA d (k + 1)).length = k := by
            rw [ddA_same (by omega) (by rw [HX.out, HY.out, Option.map_some, Option.map_some, HE.out]), ddA_all (by omega) HD.out, List.length_take]; omega
          have hT0 : cur0.toList.take (k * 13) = adcells (ddA d (k + 1)) := by
            rw [ddA_same (by omega) (by rw [HX.out, HY.out, Option.map_some, Option.map_some, HE.out]), ddA_all (by omega) HD.out]
            have e1 : adcells d = adcells (d.take k) ++ adcells (d.drop k) := by rw [← adcells_append, List.take_append_drop]
            have e2 := congrArg (List.take (k * 13)) ht0
            rw [List.take_take, show min (k * 13) (d.length * 13) = k * 13 from Nat.min_eq_left (by omega), e1, List.take_left' (by rw [adcells_len, List.length_take]; omega)] at e2
            exact e2
          have hC0 : ∀ (j n : Nat) (z : AdX) (v : Value), k ≤ j → d[j]? = some z → z.enc[n]? = some v → cur0.toList[j * 13 + n]? = some v := by
            intro j n z v _ hz hv
            have h1 := (List.getElem?_eq_some_iff.1 hv).1
            rw [ad_len] at h1
            have h3 := (List.getElem?_eq_some_iff.1 hz).1
            have h4 := adcell hz hv
            rw [← ht0, List.getElem?_take_of_lt (by omega)] at h4
            exact h4
          have HT0 := Lib.hid hT0
          have HC0 := Lib.hid hC0
          have HG0 := Lib.hid hg0
          have HB0 : Hid (w.grownBy (grow (redrawn wx nq) osq) (some g)) := only_of_below HQ.out (some g)
          have HM0 := Lib.hid hm0
          have hcl : cur0.toList.length = c * 13 := by rw [Array.length_toList, hcs]
          have HCL := Lib.hid hcl
          clear hown3 hg0 ht0 hT0 hC0 hm0 hcl hcs HN HD F0 F1 F2 F3 F4 F5 F6 F7 F8 F9 F10 F11 F12 E0 E1 E2 E3 E4 E5 E6 E7 E8 E9 E10 E11 E12 hEQ HQ
          have hne : ¬ c = k := by omega
          have hkc : (k : Int) ≤ (c : Int) := by omega
          go_wp2
          go_loopw [5, 7] (fun a b wr => ∃ (m q : Nat) (cur : List Value), a = .int .i64 m ∧ b = .int .i64 q ∧ 1 ≤ q ∧ k + q ≤ d.length ∧ m + 1 ≤ k + q ∧ Hid (m = (ddA d (k + q)).length) ∧ Hid (wr.heap[g]? = some (.cells cur.toArray 36 (0, 0))) ∧ Hid (cur.length = c * 13) ∧ Hid (cur.take (m * 13) = adcells (ddA d (k + q))) ∧ Hid (∀ (j n : Nat) (z : AdX) (v : Value), k + q - 1 ≤ j → d[j]? = some z → z.enc[n]? = some v → cur[j * 13 + n]? = some v) ∧ Hid (w.grownBy wr (some g))) (fun _ b _ => d.length - (intOf b).toNat)
          case atStart => exact ⟨k, 1, cur0.toList, rfl, rfl, by omega, by omega, by omega, HM0.out.symm, HG0.out, HCL.out, HT0.out, HC0.out, HB0.out⟩
          case round =>
            obtain ⟨m, q, cur, rfl, rfl, hq1, hkq, hmq, HM, HG, HL, HT, HC, HB⟩ := hrel
            rename World => wr
            clear HT0 HC0 HG0 HB0 HM0 HCL
            have hqd : (k : Int) + (q : Int) ≤ (d.length : Int) := by omega
            by_cases hlq : q < d.length - k
            · have hI2 : (q : Int) < ((d.length - k : Nat) : Int) := by omega
              have hI3 : ((q : Int) - 1) < ((d.length - k : Nat) : Int) := by omega
              have hI4 : (m : Int) < (d.length : Int) := by omega
              obtain ⟨x2, hx2⟩ : ∃ x2, d[k + q]? = some x2 := ⟨_, List.getElem?_eq_getElem (by omega)⟩
              obtain ⟨y2, hy2⟩ : ∃ y2, d[k + (q - 1)]? = some y2 := ⟨_, List.getElem?_eq_getElem (by omega)⟩
              have hcr : ∀ (i : Nat) (u : Value), cur[i]? = some u → wr.cell? ⟨g, i, none⟩ = some u := fun i u hu => by rw [cell_of_row wr g i _ _ (0, 0) HG.out]; simpa using hu
              have hcx : ∀ (n : Nat) (v : Value), x2.enc[n]? = some v → wr.cell? ⟨g, k * 13 + q * 13 + n, none⟩ = some v := fun n v hv => by rw [← Nat.add_mul]; exact hcr _ _ (HC.out (k + q) n x2 v (by omega) hx2 hv)
              have hcy : ∀ (n : Nat) (v : Value), y2.enc[n]? = some v → wr.cell? ⟨g, k * 13 + (q - 1) * 13 + n, none⟩ = some v := fun n v hv => by rw [← Nat.add_mul]; exact hcr _ _ (HC.out (k + (q - 1)) n y2 v (by omega) hy2 hv)
              have f0 : wr.cell? ⟨g, k * 13 + q * 13, none⟩ = some (.int .u32 x2.v.a) := hcx 0 _ rfl
              have e0 : wr.cell? ⟨g, k * 13 + (q - 1) * 13, none⟩ = some (.int .u32 y2.v.a) := hcy 0 _ rfl
              have F0 := cell_regrown f0
              have E0 := cell_regrown e0
              have f1 : wr.cell? ⟨g, k * 13 + q * 13 + 1, none⟩ = some (.int .i64 x2.v.m) := hcx 1 _ rfl
              have e1 : wr.cell? ⟨g, k * 13 + (q - 1) * 13 + 1, none⟩ = some (.int .i64 y2.v.m) := hcy 1 _ rfl
              have F1 := cell_regrown f1
              have E1 := cell_regrown e1
              have f2 : wr.cell? ⟨g, k * 13 + q * 13 + 2, none⟩ = some (.int .u32 x2.v.ho) := hcx 2 _ rfl
              have e2 : wr.cell? ⟨g, k * 13 + (q - 1) * 13 + 2, none⟩ = some (.int .u32 y2.v.ho) := hcy 2 _ rfl
              have F2 := cell_regrown f2
              have E2 := cell_regrown e2
              have f3 : wr.cell? ⟨g, k * 13 + q * 13 + 3, none⟩ = some (.int .i64 x2.v.pf) := hcx 3 _ rfl
              have e3 : wr.cell? ⟨g, k * 13 + (q - 1) * 13 + 3, none⟩ = some (.int .i64 y2.v.pf) := hcy 3 _ rfl
              have F3 := cell_regrown f3
              have E3 := cell_regrown e3
              have f4 : wr.cell? ⟨g, k * 13 + q * 13 + 4, none⟩ = some (.int .i64 x2.v.me) := hcx 4 _ rfl
              have e4 : wr.cell? ⟨g, k * 13 + (q - 1) * 13 + 4, none⟩ = some (.int .i64 y2.v.me) := hcy 4 _ rfl
              have F4 := cell_regrown f4
              have E4 := cell_regrown e4
              have f5 : wr.cell? ⟨g, k * 13 + q * 13 + 5, none⟩ = some x2.p := hcx 5 _ rfl
              have e5 : wr.cell? ⟨g, k * 13 + (q - 1) * 13 + 5, none⟩ = some y2.p := hcy 5 _ rfl
              have F5 := cell_regrown f5
              have E5 := cell_regrown e5
              have f6 : wr.cell? ⟨g, k * 13 + q * 13 + 6, none⟩ = some x2.o := hcx 6 _ rfl
              have e6 : wr.cell? ⟨g, k * 13 + (q - 1) * 13 + 6, none⟩ = some y2.o := hcy 6 _ rfl
              have F6 := cell_regrown f6
              have E6 := cell_regrown e6
              have f7 : wr.cell? ⟨g, k * 13 + q * 13 + 7, none⟩ = some (.int .u32 x2.v.pe) := hcx 7 _ rfl
              have e7 : wr.cell? ⟨g, k * 13 + (q - 1) * 13 + 7, none⟩ = some (.int .u32 y2.v.pe) := hcy 7 _ rfl
              have F7 := cell_regrown f7
              have E7 := cell_regrown e7
              have f8 : wr.cell? ⟨g, k * 13 + q * 13 + 8, none⟩ = some (.int .u32 x2.v.id) := hcx 8 _ rfl
              have e8 : wr.cell? ⟨g, k * 13 + (q - 1) * 13 + 8, none⟩ = some (.int .u32 y2.v.id) := hcy 8 _ rfl
              have F8 := cell_regrown f8
              have E8 := cell_regrown e8
              have f9 : wr.cell? ⟨g, k * 13 + q * 13 + 9, none⟩ = some (.bool x2.v.ex) := hcx 9 _ rfl
              have e9 : wr.cell? ⟨g, k * 13 + (q - 1) * 13 + 9, none⟩ = some (.bool y2.v.ex) := hcy 9 _ rfl
              have F9 := cell_regrown f9
              have E9 := cell_regrown e9
              have f10 : wr.cell? ⟨g, k * 13 + q * 13 + 10, none⟩ = some (.int .u32 x2.v.og) := hcx 10 _ rfl
              have e10 : wr.cell? ⟨g, k * 13 + (q - 1) * 13 + 10, none⟩ = some (.int .u32 y2.v.og) := hcy 10 _ rfl
              have F10 := cell_regrown f10
              have E10 := cell_regrown e10
              have f11 : wr.cell? ⟨g, k * 13 + q * 13 + 11, none⟩ = some x2.l := hcx 11 _ rfl
              have e11 : wr.cell? ⟨g, k * 13 + (q - 1) * 13 + 11, none⟩ = some y2.l := hcy 11 _ rfl
              have F11 := cell_regrown f11
              have E11 := cell_regrown e11
              have f12 : wr.cell? ⟨g, k * 13 + q * 13 + 12, none⟩ = some (.int .i64 x2.v.ss) := hcx 12 _ rfl
              have e12 : wr.cell? ⟨g, k * 13 + (q - 1) * 13 + 12, none⟩ = some (.int .i64 y2.v.ss) := hcy 12 _ rfl
              have F12 := cell_regrown f12
              have E12 := cell_regrown e12
              have HX2 := Lib.hid hx2
              have HY2 := Lib.hid hy2
              have hgw := lt_of_block HG.out
              clear hcr hcx hcy hx2 hy2 f0 e0 f1 e1 f2 e2 f3 e3 f4 e4 f5 e5 f6 e6 f7 e7 f8 e8 f9 e9 f10 e10 f11 e11 f12 e12
              have hxok := ((HGA.out x2 (List.mem_of_getElem? HX2.out)).grown HB.out).ok
              have hyok := ((HGA.out y2 (List.mem_of_getElem? HY2.out)).grown HB.out).ok
              by_cases he2 : x2.v = y2.v
              · have hEQ := Lib.hid (fun W (hW : Below wr.heap.size wr W) => eqL1_yes (hxok.next hW) (hyok.next hW) he2)
                have HE2 := Lib.hid he2
                clear he2 hxok hyok
                go_wp2
                refine wp_region_quiet_below (by kernel_rfl) (by kernel_rfl) ?_
                repeat (first | go_big_quiet_step ((go_at_call 36; exact Calls.regrown_of (hEQ.out _ (below_regrown _ _ _)))) | quiet_step ((go_at_call 36; exact Calls.regrown_of (hEQ.out _ (below_regrown _ _ _)))))
                refine wpQuiet_nil ?_
                intro _ hw'
                obtain ⟨⟨nq, osq⟩, hw''⟩ := hw'
                subst hw''
                have hq := below_regrown wr nq osq
                have HQ2 := Lib.hid hq
                clear hq
                have hdd2 : ddA d (k + (q + 1)) = ddA d (k + q) := by
                  refine ddA_same (n := k + q) (by omega) ?_
                  rw [HX2.out, show k + q - 1 = k + (q - 1) by omega, HY2.out, Option.map_some, Option.map_some, HE2.out]
                have HDD := Lib.hid hdd2
                clear hdd2 hEQ
                go_wp2
                refine ⟨⟨m, q + 1, cur, rfl, by go_num, by omega, by omega, by omega, ?_, (HQ2.out.block g hgw).trans HG.out, HL.out, ?_, fun j n z v hj => HC.out j n z v (by omega), grown_trans HB.out (only_of_below HQ2.out _)⟩, by simp only [intOf]; omega⟩
                · show m = _; rw [HDD.out]; exact HM.out
                · show _ = _; rw [HDD.out]; exact HT.out
              · have hEQ := Lib.hid (fun W (hW : Below wr.heap.size wr W) => eqL1_no (hxok.next hW) (hyok.next hW) he2)
                have HE2 := Lib.hid he2
                clear he2 hxok hyok
                go_wp2
                refine wp_region_quiet_below (by kernel_rfl) (by kernel_rfl) ?_
                repeat (first | go_big_quiet_step ((go_at_call 36; exact Calls.regrown_of (hEQ.out _ (below_regrown _ _ _)))) | quiet_step ((go_at_call 36; exact Calls.regrown_of (hEQ.out _ (below_regrown _ _ _)))))
                refine wpQuiet_nil ?_
                intro _ hw'
                obtain ⟨⟨nq, osq⟩, hw''⟩ := hw'
                subst hw''
                have hq := below_regrown wr nq osq
                have HQ2 := Lib.hid hq
                have hG2 := (hq.block g hgw).trans HG.out
                have hB2' := grown_trans HB.out (only_of_below hq (some g))
                clear hq
                have hdd2 : ddA d (k + (q + 1)) = ddA d (k + q) ++ [x2] := by
                  refine ddA_new (n := k + q) HX2.out (fun _ => ?_)
                  rw [HX2.out, show k + q - 1 = k + (q - 1) by omega, HY2.out, Option.map_some, Option.map_some]
                  intro h
                  injection h with h
                  exact HE2.out h
                have HDD := Lib.hid hdd2
                have hfit : m * 13 + x2.enc.length ≤ cur.length := by rw [HL.out, ad_len]; omega
                clear hdd2 hEQ E0 E1 E2 E3 E4 E5 E6 E7 E8 E9 E10 E11 E12
                have g0 := F0 nq osq
                have g1 := F1 nq osq
                have g2 := F2 nq osq
                have g3 := F3 nq osq
                have g4 := F4 nq osq
                have g5 := F5 nq osq
                have g6 := F6 nq osq
                have g7 := F7 nq osq
                have g8 := F8 nq osq
                have g9 := F9 nq osq
                have g10 := F10 nq osq
                have g11 := F11 nq osq
                have g12 := F12 nq osq
                have HB3 := Lib.hid hB2'
                clear hB2'
                go_wp2_with (refine wpList_store_G rfl _ _ 36 rfl 13 Try.sizeOf36 g (m * 13) rfl (.agg x2.enc.toArray) rfl cur 36 hG2 x2.enc rfl rfl hfit (aenc_one x2) ?_; intro w5 hg5 hb5)
                have hlen5 : (splice cur (m * 13) x2.enc).length = c * 13 := by rw [length_splice _ _ _ hfit]; exact HL.out
                have htk5 : (splice cur (m * 13) x2.enc).take ((m + 1) * 13) = adcells (ddA d (k + (q + 1))) := by
                  rw [take_spliceA hfit (by rw [ad_len]; omega), HDD.out, adcells_snoc, HT.out]
                refine ⟨⟨m + 1, q + 1, splice cur (m * 13) x2.enc, by go_num, by go_num, by omega, by omega, by omega, ?_, hg5, hlen5, htk5, ?_, grown_trans HB3.out hb5⟩, by simp only [intOf]; omega⟩
                · show m + 1 = _
                  rw [HDD.out, List.length_append, ← HM.out]; rfl
                · intro j n z v hj hz hv
                  rw [splice_getA hfit (by rw [ad_len]; omega)]
                  exact HC.out j n z v (by omega) hz hv
            · obtain rfl : q = d.length - k := by omega
              have hgx := HG.out
              have ekq : k + (d.length - k) = d.length := by omega
              have HM2 : Hid (m = (ddA d d.length).length) := by have h := HM.out; rw [ekq] at h; exact h
              have HT2 : Hid (cur.take (m * 13) = adcells (ddA d d.length)) := by have h := HT.out; rw [ekq] at h; exact h
              clear ekq HM HT HC
              have hmd : m < d.length := by omega
              have hnm : (m : Int) ≤ (c : Int) := by omega
              have hnc2 : ¬ c = m := by omega
              have hfz : m * 13 + (Builtin.zeroCells (Value.agg #[.int .u32 0, .int .i64 0, .int .u32 0, .int .i64 0, .int .i64 0, .slice none 0 0, .slice none 0 0, .int .u32 0, .int .u32 0, .bool false, .int .u32 0, .slice none 0 0, .int .i64 0]).cells (d.length - m)).toList.length ≤ cur.length := by rw [zeroA_len, HL.out]; omega
              go_wp2_with (refine wpList_clear_G rfl _ 32 rfl 36 Try.underlying32 (Value.agg #[.int .u32 0, .int .i64 0, .int .u32 0, .int .i64 0, .int .i64 0, .slice none 0 0, .slice none 0 0, .int .u32 0, .int .u32 0, .bool false, .int .u32 0, .slice none 0 0, .int .i64 0]) Try.zeroAdvert (by intro v hv; simp only [Value.cells, List.mem_cons, List.not_mem_nil, or_false] at hv; rcases hv with rfl | rfl | rfl | rfl | rfl | rfl | rfl | rfl | rfl | rfl | rfl | rfl | rfl <;> rfl) (some ⟨g, m * 13, none⟩) (d.length - m) (c - m) rfl (by omega) g (m * 13) rfl cur 36 hgx _ rfl hfz ?_; intro w5 hg5 hb5)
              go_ret
              have hl5 := length_splice cur (m * 13) _ hfz
              refine ⟨_, rfl, rfl, ?_, grown_trans HB.out hb5⟩
              have hM := HM2.out
              rw [← hM]
              refine owns_of_block (cur := (splice cur (m * 13) _).toArray) hg5.out (by omega) hcm (by rw [List.size_toArray, hl5]; exact HL.out) ?_ (by rw [adcells_len, ← hM]) hbg
              rw [← HT2.out]
              exact take_splice_lowA (by rw [HL.out]; omega) rfl
        · have hEQ := Lib.hid (fun W (hW : Below wx.heap.size wx W) => eqL1_no (hxok.next hW) (hyok.next hW) he)
          have HE := Lib.hid he
          clear he hxok hyok
          go_wp2
          refine wp_region_quiet_below (by kernel_rfl) (by kernel_rfl) ?_
          repeat (first | go_big_quiet_step ((go_at_call 36; exact Calls.regrown_of (hEQ.out _ (below_regrown _ _ _)))) | quiet_step ((go_at_call 36; exact Calls.regrown_of (hEQ.out _ (below_regrown _ _ _)))))
          refine wpQuiet_nil ?_
          intro _ hw'
          obtain ⟨⟨nq, osq⟩, hw''⟩ := hw'
          subst hw''
          have hq := below_regrown wx nq osq
          go_wp2
          refine ⟨⟨k + 1, rfl, by omega, by omega, ?_, HN.out.trans (hq.mono HN.out.size)⟩, by simp only [intOf]; omega⟩
          intro i h1 h3
          by_cases hik : i = k
          · subst hik
            rw [HX.out, HY.out, Option.map_some, Option.map_some]
            intro h
            injection h with h
            exact HE.out h
          · exact HD.out i h1 (by omega)
      · obtain rfl : k = d.length := by omega
        have hJ : ¬ (d.length : Int) < (d.length : Int) := by omega
        have hdd : ddA d d.length = d := by rw [ddA_all (Nat.le_refl _) HD.out, List.take_length]
        go_wp2
        go_ret
        exact ⟨_, rfl, rfl, by first | exact owns_kept_none HO.out (only_of_below HN.out none) | (rw [hdd]; exact owns_kept_none HO.out (only_of_below HN.out none)), only_of_below HN.out _⟩
end Go.Proofs.Ytbanbommgcjmjaa

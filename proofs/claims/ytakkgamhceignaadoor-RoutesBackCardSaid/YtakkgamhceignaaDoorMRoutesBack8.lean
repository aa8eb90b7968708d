/-
  Joined texts: Rt2, Pu31.
-/
import Derived.Test.YtakkgamhceignaaDoorMRoutesBack6
import Derived.Test.YtakkgamhceignaaDoorMRoutesBack4
import Derived.Test.YtakkgamhceignaaDoorMRoutesBack7
import Derived.Deep.DeepCutAuto
import Derived.Shelf.Pu.ParseUintPublic10
import Derived.Shelf.Pu.Lower
import Derived.Lib.Hide
/-
  The walk of routes.Text.
-/
namespace Go.Proofs.YtakkgamhceignaaDoor
open Go Go.RowKit Go.Lib Go.Sort

def RtV.told (r : RtV) : List UInt8 := if r.ok then r.text else []
def RtV.toldE (r : RtV) : Int := if r.ok then 0 else 1
theorem rt_told_yes {r : RtV} (h : r.ok = true) : r.told = r.text ∧ r.toldE = 0 := by unfold RtV.told RtV.toldE; rw [if_pos h, if_pos h]; exact ⟨rfl, rfl⟩
theorem rt_told_no {r : RtV} (h : r.ok = false) : r.told = [] ∧ r.toldE = 1 := by unfold RtV.told RtV.toldE; rw [h]; exact ⟨rfl, rfl⟩
def NameC (l : List UInt8) : Prop := ∀ W : World, Env W → Calls Tryd.prog 24 #[.string ⟨l.toArray⟩] W fun e W' => e = .returned (.bool (nameB l)) ∧ Below W.heap.size W W'

theorem below_alR {W V : World} {o : Obj} (h : Below W.heap.size W V) : Below W.heap.size W (V.alloc o) := h.alloc h.size o
theorem keep9 {W V : World} {g : Nat} {v0 v1 v2 v3 v4 v5 v6 v7 v8 : Value} (h0 : W.cell? ⟨g, 0, none⟩ = some v0) (h1 : W.cell? ⟨g, 1, none⟩ = some v1) (h2 : W.cell? ⟨g, 2, none⟩ = some v2) (h3 : W.cell? ⟨g, 3, none⟩ = some v3) (h4 : W.cell? ⟨g, 4, none⟩ = some v4) (h5 : W.cell? ⟨g, 5, none⟩ = some v5) (h6 : W.cell? ⟨g, 6, none⟩ = some v6) (h7 : W.cell? ⟨g, 7, none⟩ = some v7) (h8 : W.cell? ⟨g, 8, none⟩ = some v8) (h : Below W.heap.size W V) : V.cell? ⟨g, 0, none⟩ = some v0 ∧ V.cell? ⟨g, 1, none⟩ = some v1 ∧ V.cell? ⟨g, 2, none⟩ = some v2 ∧ V.cell? ⟨g, 3, none⟩ = some v3 ∧ V.cell? ⟨g, 4, none⟩ = some v4 ∧ V.cell? ⟨g, 5, none⟩ = some v5 ∧ V.cell? ⟨g, 6, none⟩ = some v6 ∧ V.cell? ⟨g, 7, none⟩ = some v7 ∧ V.cell? ⟨g, 8, none⟩ = some v8 ∧ Below W.heap.size W V := ⟨cell_kept h h0, cell_kept h h1, cell_kept h h2, cell_kept h h3, cell_kept h h4, cell_kept h h5, cell_kept h h6, cell_kept h h7, cell_kept h h8, h⟩
theorem fromsBlk_at {k : Nat} (h : k ≤ 8) : fromsBlk[k]? = some (.string ⟨(fromW (k : Int)).toArray⟩) := by
  match k, h with
  | 0, _ => rfl
  | 1, _ => rfl
  | 2, _ => rfl
  | 3, _ => rfl
  | 4, _ => rfl
  | 5, _ => rfl
  | 6, _ => rfl
  | 7, _ => rfl
  | 8, _ => rfl
  | n + 9, h => omega
theorem wpList_pushN {P : Program} {ops : Array Oper} {rest : List Oper} {o : Oper} {a : Act} {Q : Exit → Act → World → Prop} (hgd : o.guard = none) (s x : Operand) (t : TypeId)
    (ho : o.op = .call { callee := .builtin .append, args := #[s, x], argTypes := #[t, t] })
    (e : TypeId) (i : TypeInfo) (z : Value) (size bytes : Nat) (ht : P.underlying t = some (.slice e)) (hi : P.info? e = some i) (hz : i.zero = some z)
    (hsize : i.size = size) (hby : i.bytes = bytes) (hzs : z.cells.size = size) (hsz : 0 < size) (hb64 : bytes ≤ 64)
    {w0 : World} {base n : Nat} {v : Value} {xs : List Value} (m : Nat) (hm : m ≤ 8) (hm0 : 0 < m) (es : List Value) (hs : a.eval s = v) {g0 : Nat} (hx : a.eval x = .slice (some ⟨g0, 0, none⟩) m m) (hg0 : g0 = w0.heap.size)
    (hown : w0.ownsRow base e size v n xs) (hes : es.length = m * size) (h1 : ∀ u ∈ es, u.oneCell' = true) (hn : n ≤ 1099511627776) (hbase : base ≤ w0.heap.size)
    {B : Nat} {a0 : World} (hb : Below B a0 w0) (hB : B ≤ base)
    (h : ∀ v' w', w'.ownsRow base e size v' (n + m) (xs ++ es) → Below B a0 w' → wpList P ops Q rest (a.put o.dst v') w') : wpList P ops Q (o :: rest) a (w0.alloc (.cells es.toArray e)) := by
  subst hg0
  refine wpList_append_own _ hgd s x t ho base e i z size bytes ht hi hz hsize hby hzs hsz v n xs hs (hown.alloc _) ⟨w0.heap.size, 0, none⟩ m m es hx hes (cells_new w0 es e) h1 (by unfold maxLen; omega) ?_ (by simp; omega) ?_
  · calc (n + m) * bytes ≤ (1099511627776 + 8) * 64 := Nat.mul_le_mul (by omega) hb64
      _ ≤ 140737488355328 := by decide
  · intro v' w' h2 h3 _
    exact h v' w' h2 (below_row (hb.alloc (by omega) _) (hown.alloc _) h3 (by simp; omega) hB)
theorem addrTextI_any (a : Int) (ha : 0 ≤ a ∧ a < 4294967296) (w : World) (hE : Env w) :
    Calls Tryd.prog 27 #[.int .u32 a] w fun e w' => e = .returned (.string (textA a.toNat)) ∧ Below w.heap.size w w' := by
  obtain ⟨k, rfl⟩ := Int.eq_ofNat_of_zero_le ha.1
  exact addrText_any k (by omega) w hE
def RtV.hopB (r : RtV) : List ByteArray := if r.ho = 0 then [] else [⟨viaW.toArray⟩, textA r.ho.toNat]
def RtV.nmB (r : RtV) : List ByteArray := if r.nm = [] then [] else [⟨onW.toArray⟩, ⟨r.nm.toArray⟩]
def RtV.dcB (r : RtV) : List ByteArray := if r.dc = true then [⟨discW.toArray⟩] else []
theorem str_one {l : List ByteArray} : ∀ u ∈ l.map Value.string, u.oneCell' = true := by
  intro u hu
  obtain ⟨x, _, rfl⟩ := List.mem_map.1 hu
  rfl
theorem joinB32_len : ∀ (L : List (List UInt8)), (joinB32 L).length ≤ (L.map List.length).sum + L.length
  | [] => by simp [joinB32]
  | [x] => by simp [joinB32]
  | x :: y :: r => by
    have h := joinB32_len (y :: r)
    simp only [joinB32, List.length_append, List.length_cons, List.map_cons, List.sum_cons] at *
    omega
theorem fromW_len {f : Int} (h1 : 1 ≤ f) (h2 : f ≤ 8) : (fromW f).length ≤ 9 := by
  rcases from_cases h1 h2 with rfl | rfl | rfl | rfl | rfl | rfl | rfl | rfl <;> decide
theorem name_len {l : List UInt8} (h : nameB l = true) : l.length ≤ 32 := by
  match l, h with
  | c :: r, h =>
    simp only [nameB, Bool.and_eq_true, decide_eq_true_eq] at h
    exact h.1.1
theorem rt_text_len {r : RtV} (h : r.ok = true) : r.text.length ≤ 300 := by
  obtain ⟨h1, h2, h3, h4, h5, h6, h7, h8⟩ := rt_ok h
  have kc := chk_ok h1
  have a0 := prefT_len (a := r.a) kc.1 kc.2.1
  have a1 := fromW_len h2 h3
  have a2 := dec32 (n := r.di.toNat) (by omega)
  have a3 := dec32 (n := r.me.toNat) (by omega)
  have a4 := dec32 (n := r.ta.toNat) (by omega)
  have b1 : (r.hopW.map List.length).sum ≤ 18 ∧ r.hopW.length ≤ 2 := by
    unfold RtV.hopW
    split
    · simp
    · have e : (textA r.ho.toNat).data.toList.length = (textA r.ho.toNat).size := Array.length_toList
      have := textA_size r.ho.toNat
      simp [viaW] at *
      omega
  have b2 : (r.nmW.map List.length).sum ≤ 34 ∧ r.nmW.length ≤ 2 := by
    unfold RtV.nmW
    split
    · simp
    · rename_i hne
      rcases h7 with h7 | h7
      · exact absurd h7 hne
      · have := name_len h7
        simp [onW]
        omega
  have b3 : (r.dcW.map List.length).sum ≤ 7 ∧ r.dcW.length ≤ 1 := by
    unfold RtV.dcW
    split <;> simp [discW]
  unfold RtV.text
  rw [← joinC_join32]
  refine Nat.le_trans (joinB32_len _) ?_
  simp only [RtV.words, List.map_append, List.sum_append, List.length_append, List.map_cons, List.map_nil, List.sum_cons, List.sum_nil, List.length_cons, List.length_nil]
  omega
theorem rt_words_B {r : RtV} {q0 : ByteArray} {k : Nat} (h : q0.data.toList = prefT r.a r.m) (hk : r.fr = (k : Int)) : ((([q0, ⟨(fromW k).toArray⟩, ⟨(Lib.decDigits r.di.toNat).toArray⟩, ⟨(Lib.decDigits r.me.toNat).toArray⟩, ⟨(Lib.decDigits r.ta.toNat).toArray⟩] ++ r.hopB) ++ r.nmB) ++ r.dcB).map (·.data.toList) = r.words := by
  unfold RtV.words RtV.hopB RtV.nmB RtV.dcB RtV.hopW RtV.nmW RtV.dcW
  rw [hk]
  by_cases h0 : r.ho = 0 <;> by_cases hn : r.nm = [] <;> cases hd : r.dc <;> simp [h0, hn, h]
/-- Words in a row of the caller's, joined by blanks. -/
theorem lineO_any (L : List ByteArray) (v : Value) (B : Nat) (V : World) (h : V.ownsRow B 9 1 v L.length (L.map Value.string)) (hpos : 0 < L.length) (hn : L.length ≤ 1000000) (hj : (Lib.join (L.map (·.data.toList)) [32]).length ≤ 140737488355328) :
    Calls Tryd.prog 28 #[v] V fun e V' => e = .returned (.string ⟨(Lib.join (L.map (·.data.toList)) [32]).toArray⟩) ∧ Below V.heap.size V V' := by
  obtain ⟨A2, c2, rfl, hA2⟩ := owns_form h
  obtain ⟨g, rfl⟩ := hA2 hpos
  have hg := h.lt g rfl
  have hcc2 : L.length ≤ c2 := by
    obtain ⟨_, _, hh, _⟩ := owns_block h
    exact hh
  have hJ := Lib.hid (Tryd.strings_Join g 0 c2 L ⟨#[32]⟩ V (fun j x hj => by
    have hc := h.cells (g := g) rfl j (.string x) (by rw [List.getElem?_map, hj]; rfl)
    have e : (⟨g, 0, none⟩ : Addr).add j = ⟨g, 0 + j, none⟩ := by simp [Addr.add]; omega
    rw [← e]; exact hc) hg.2 (by omega) (by omega) hj)
  clear h hj hg
  go_enter Tryd.func28, Tryd.ntmps28
  go_wp2_with fail
  refine hJ.out.mono ?_
  rintro e w1 ⟨rfl, hb⟩
  go_wp2
  go_ret
  exact ⟨rfl, hb⟩
def rtObj (r : RtV) : Obj := .cells #[.int .u32 r.a, .int .i64 r.m, .int .u8 r.fr, .int .i64 r.di, .int .i64 r.me, .int .i64 r.ta, .string ⟨r.nm.toArray⟩, .int .u32 r.ho, .bool r.dc] 39
theorem blk9 {w : World} {g : Nat} {v0 v1 v2 v3 v4 v5 v6 v7 v8 : Value} {t : TypeId} (h : w.heap[g]? = some (.cells #[v0, v1, v2, v3, v4, v5, v6, v7, v8] t (0, 0))) : w.cell? ⟨g, 0, none⟩ = some v0 ∧ w.cell? ⟨g, 1, none⟩ = some v1 ∧ w.cell? ⟨g, 2, none⟩ = some v2 ∧ w.cell? ⟨g, 3, none⟩ = some v3 ∧ w.cell? ⟨g, 4, none⟩ = some v4 ∧ w.cell? ⟨g, 5, none⟩ = some v5 ∧ w.cell? ⟨g, 6, none⟩ = some v6 ∧ w.cell? ⟨g, 7, none⟩ = some v7 ∧ w.cell? ⟨g, 8, none⟩ = some v8 :=
  ⟨cell_of_row w g 0 _ t (0, 0) h, cell_of_row w g 1 _ t (0, 0) h, cell_of_row w g 2 _ t (0, 0) h, cell_of_row w g 3 _ t (0, 0) h, cell_of_row w g 4 _ t (0, 0) h, cell_of_row w g 5 _ t (0, 0) h, cell_of_row w g 6 _ t (0, 0) h, cell_of_row w g 7 _ t (0, 0) h, cell_of_row w g 8 _ t (0, 0) h⟩
theorem rt_ok_iff {r : RtV} : r.ok = true ↔ (chk r.a r.m = 0 ∧ 1 ≤ r.fr ∧ r.fr ≤ 8 ∧ (fineB r.di = true ∧ fineB r.me = true ∧ fineB r.ta = true) ∧ (r.nm = [] ∨ nameB r.nm = true) ∧ (r.dc = true → r.ho = 0 ∧ r.nm = [])) := by
  simp only [RtV.ok, Bool.and_eq_true, decide_eq_true_eq, Bool.or_eq_true, Bool.not_eq_true']
  constructor
  · rintro ⟨⟨⟨⟨⟨⟨⟨h1, h2⟩, h3⟩, h4⟩, h5⟩, h6⟩, h7⟩, h8⟩
    refine ⟨h1, h2, h3, ⟨h4, h5, h6⟩, h7, fun hd => ?_⟩
    rcases h8 with h8 | h8
    · rw [hd] at h8; cases h8
    · exact h8
  · rintro ⟨h1, h2, h3, ⟨h4, h5, h6⟩, h7, h8⟩
    refine ⟨⟨⟨⟨⟨⟨⟨h1, h2⟩, h3⟩, h4⟩, h5⟩, h6⟩, h7⟩, ?_⟩
    cases hd : r.dc with
    | false => exact Or.inl rfl
    | true => exact Or.inr (h8 hd)
theorem rt_ok_yes {r : RtV} (h : chk r.a r.m = 0 ∧ 1 ≤ r.fr ∧ r.fr ≤ 8 ∧ (fineB r.di = true ∧ fineB r.me = true ∧ fineB r.ta = true) ∧ (r.nm = [] ∨ nameB r.nm = true) ∧ (r.dc = true → r.ho = 0 ∧ r.nm = [])) : r.ok = true := rt_ok_iff.2 h
theorem rt_ok_no {r : RtV} (h : ¬ (chk r.a r.m = 0 ∧ 1 ≤ r.fr ∧ r.fr ≤ 8 ∧ (fineB r.di = true ∧ fineB r.me = true ∧ fineB r.ta = true) ∧ (r.nm = [] ∨ nameB r.nm = true) ∧ (r.dc = true → r.ho = 0 ∧ r.nm = []))) : r.ok = false := by
  cases e : r.ok with
  | false => rfl
  | true => exact absurd (rt_ok_iff.1 e) h
set_option maxRecDepth 100000 in
set_option maxHeartbeats 40000000 in
theorem rtText_any (r : RtV) (w : World) (hE : Env w) (hN : r.nm ≠ [] → NameC r.nm) :
    Calls Tryd.prog 10 #[.agg #[.int .u32 r.a, .int .i64 r.m, .int .u8 r.fr, .int .i64 r.di, .int .i64 r.me, .int .i64 r.ta, .string ⟨r.nm.toArray⟩, .int .u32 r.ho, .bool r.dc]] w fun e w' => e = .returned (.tuple #[.string ⟨r.told.toArray⟩, .int .i64 r.toldE]) ∧ Below w.heap.size w w' := by
  have hk0 := heap_alloc_new w (rtObj r)
  have hb0 := below1 w (rtObj r)
  have hW : w.alloc (.cells #[.int .u32 r.a, .int .i64 r.m, .int .u8 r.fr, .int .i64 r.di, .int .i64 r.me, .int .i64 r.ta, .string ⟨r.nm.toArray⟩, .int .u32 r.ho, .bool r.dc] 39) = w.alloc (rtObj r) := rfl
  have hE0 := hE.below hb0
  obtain ⟨c0, c1, c2, c3, c4, c5, c6, c7, c8⟩ := blk9 (t := 39) (show (w.alloc (rtObj r)).heap[w.heap.size]? = some (.cells #[.int .u32 r.a, .int .i64 r.m, .int .u8 r.fr, .int .i64 r.di, .int .i64 r.me, .int .i64 r.ta, .string ⟨r.nm.toArray⟩, .int .u32 r.ho, .bool r.dc] 39 (0, 0)) from hk0)
  go_enter Tryd.func10, Tryd.ntmps10
  go_upto_region 1 with fail
  try rw [hW]
  generalize w.alloc (rtObj r) = W at *
  clear hW
  go_cut [57] (fun sc wx => sc = .bool (!r.ok) ∧ Below W.heap.size W wx)
  case first =>
    by_cases q0 : chk r.a r.m = 0
    · by_cases q1 : r.fr < 1
      · obtain ⟨hf0, hf1⟩ := r.hfr
        have d0 : (chk r.a r.m != 0) = false := by simpa using q0
        have d1 : decide (r.fr < 1) = true := by simp; omega
        have KC := Lib.hid (fun V (hv : Below W.heap.size W V) => addrCheck_any r.a r.m V r.ha.1 r.ha.2)
        have hok := Lib.hid (show r.ok = false from rt_ok_no (fun h => by have := h.2.1; omega))
        try clear q6
        try clear hdc
        try clear hdf
        try clear hnn
        try clear q5
        try clear q4
        have F0 := cell_regrown c0
        have F1 := cell_regrown c1
        have F2 := cell_regrown c2
        have F3 := cell_regrown c3
        have F4 := cell_regrown c4
        have F5 := cell_regrown c5
        have F6 := cell_regrown c6
        have F7 := cell_regrown c7
        have F8 := cell_regrown c8
        refine wp_region_mix [(0, false), (1, false), (2, true), (3, false), (4, false), (5, false), (6, false), (7, false), (8, false), (9, false), (10, false), (11, false), (12, false), (13, true), (14, true), (15, false), (16, false), (17, false), (18, false), (19, false), (20, false), (21, false), (22, false), (23, false), (24, true), (25, true), (26, false), (27, false), (28, false), (29, false), (30, false), (31, false), (32, false), (33, false), (34, false), (35, true), (36, false), (37, false), (38, false), (39, false), (40, false), (41, false), (42, false), (43, false), (44, false), (45, false), (46, false), (47, false), (48, false), (49, false), (50, false), (51, false), (52, false)] (by kernel_rfl) (by kernel_rfl) ?_
        have hv0 := below_drawn W
        generalize { W with drawn := W.drawn + 1 } = V0 at *
        refine mix_take [0, 1] [_, _] rfl rfl ?_
        simp only [List.getElem_toArray, List.getElem_cons_zero, List.getElem_cons_succ]
        repeat (go_big_quiet_step (fail))
        refine wpQuiet_nil ?_
        refine mix_bar rfl (by rfl) ?_
        simp only [List.getElem_toArray, List.getElem_cons_zero, List.getElem_cons_succ]
        go_simp
        refine (KC.out V0 hv0).mono ?_
        rintro e V1 ⟨rfl, hb⟩
        have hv1 := below_call hv0 hb
        refine ⟨regrown_of_below hv1, ?_⟩
        clear hb
        refine mix_take [3, 4, 5, 6, 7, 8, 9, 10, 11, 12] [_, _, _, _, _, _, _, _, _, _] rfl rfl ?_
        simp only [List.getElem_toArray, List.getElem_cons_zero, List.getElem_cons_succ]
        repeat (go_big_quiet_step (fail))
        refine wpQuiet_nil ?_
        refine mix_not rfl (by rfl) ?_
        simp only [List.getElem_toArray, List.getElem_cons_zero, List.getElem_cons_succ]
        go_simp
        refine mix_not rfl (by rfl) ?_
        simp only [List.getElem_toArray, List.getElem_cons_zero, List.getElem_cons_succ]
        go_simp
        refine mix_take [15, 16, 17, 18, 19, 20, 21, 22, 23] [_, _, _, _, _, _, _, _, _] rfl rfl ?_
        simp only [List.getElem_toArray, List.getElem_cons_zero, List.getElem_cons_succ]
        repeat (go_big_quiet_step (fail))
        refine wpQuiet_nil ?_
        refine mix_not rfl (by rfl) ?_
        simp only [List.getElem_toArray, List.getElem_cons_zero, List.getElem_cons_succ]
        go_simp
        refine mix_not rfl (by rfl) ?_
        simp only [List.getElem_toArray, List.getElem_cons_zero, List.getElem_cons_succ]
        go_simp
        refine mix_take [26, 27, 28, 29, 30, 31, 32, 33, 34] [_, _, _, _, _, _, _, _, _] rfl rfl ?_
        simp only [List.getElem_toArray, List.getElem_cons_zero, List.getElem_cons_succ]
        repeat (go_big_quiet_step (fail))
        refine wpQuiet_nil ?_
        refine mix_not rfl (by rfl) ?_
        simp only [List.getElem_toArray, List.getElem_cons_zero, List.getElem_cons_succ]
        go_simp
        refine mix_take [36, 37, 38, 39, 40, 41, 42, 43, 44, 45, 46, 47, 48, 49, 50, 51, 52] [_, _, _, _, _, _, _, _, _, _, _, _, _, _, _, _, _] rfl rfl ?_
        simp only [List.getElem_toArray, List.getElem_cons_zero, List.getElem_cons_succ]
        repeat (go_big_quiet_step (fail))
        refine wpQuiet_nil ?_
        refine mix_end ?_
        go_wp2_with fail
        go_meet
        exact ⟨by rw [hok.out]; rfl, hv1⟩
      · by_cases q2 : 9 ≤ r.fr
        · obtain ⟨hf0, hf1⟩ := r.hfr
          have d0 : (chk r.a r.m != 0) = false := by simpa using q0
          have d1 : decide (r.fr < 1) = false := by simp; omega
          have KC := Lib.hid (fun V (hv : Below W.heap.size W V) => addrCheck_any r.a r.m V r.ha.1 r.ha.2)
          have d2 : decide (9 ≤ r.fr) = true := by simp; omega
          have hok := Lib.hid (show r.ok = false from rt_ok_no (fun h => by have := h.2.2.1; omega))
          try clear q6
          try clear hdc
          try clear hdf
          try clear hnn
          try clear q5
          try clear q4
          have F0 := cell_regrown c0
          have F1 := cell_regrown c1
          have F2 := cell_regrown c2
          have F3 := cell_regrown c3
          have F4 := cell_regrown c4
          have F5 := cell_regrown c5
          have F6 := cell_regrown c6
          have F7 := cell_regrown c7
          have F8 := cell_regrown c8
          refine wp_region_mix [(0, false), (1, false), (2, true), (3, false), (4, false), (5, false), (6, false), (7, false), (8, false), (9, false), (10, false), (11, false), (12, false), (13, true), (14, true), (15, false), (16, false), (17, false), (18, false), (19, false), (20, false), (21, false), (22, false), (23, false), (24, true), (25, true), (26, false), (27, false), (28, false), (29, false), (30, false), (31, false), (32, false), (33, false), (34, false), (35, true), (36, false), (37, false), (38, false), (39, false), (40, false), (41, false), (42, false), (43, false), (44, false), (45, false), (46, false), (47, false), (48, false), (49, false), (50, false), (51, false), (52, false)] (by kernel_rfl) (by kernel_rfl) ?_
          have hv0 := below_drawn W
          generalize { W with drawn := W.drawn + 1 } = V0 at *
          refine mix_take [0, 1] [_, _] rfl rfl ?_
          simp only [List.getElem_toArray, List.getElem_cons_zero, List.getElem_cons_succ]
          repeat (go_big_quiet_step (fail))
          refine wpQuiet_nil ?_
          refine mix_bar rfl (by rfl) ?_
          simp only [List.getElem_toArray, List.getElem_cons_zero, List.getElem_cons_succ]
          go_simp
          refine (KC.out V0 hv0).mono ?_
          rintro e V1 ⟨rfl, hb⟩
          have hv1 := below_call hv0 hb
          refine ⟨regrown_of_below hv1, ?_⟩
          clear hb
          refine mix_take [3, 4, 5, 6, 7, 8, 9, 10, 11, 12] [_, _, _, _, _, _, _, _, _, _] rfl rfl ?_
          simp only [List.getElem_toArray, List.getElem_cons_zero, List.getElem_cons_succ]
          repeat (go_big_quiet_step (fail))
          refine wpQuiet_nil ?_
          refine mix_bar rfl (by rfl) ?_
          simp only [List.getElem_toArray, List.getElem_cons_zero, List.getElem_cons_succ]
          go_simp
          refine (froms_any V1).mono ?_
          rintro e _ ⟨rfl, rfl⟩
          have hgf := heap_alloc_new V1 (.cells fromsBlk 9)
          have hv2 := hv1.alloc hv1.size (.cells fromsBlk 9)
          refine ⟨regrown_of_below hv2, ?_⟩
          generalize V1.alloc (.cells fromsBlk 9) = V2 at *
          refine mix_bar rfl (by rfl) ?_
          simp only [List.getElem_toArray, List.getElem_cons_zero, List.getElem_cons_succ]
          go_simp
          refine ⟨regrown_of_below hv2, ?_⟩
          refine mix_take [15, 16, 17, 18, 19, 20, 21, 22, 23] [_, _, _, _, _, _, _, _, _] rfl rfl ?_
          simp only [List.getElem_toArray, List.getElem_cons_zero, List.getElem_cons_succ]
          repeat (go_big_quiet_step (fail))
          refine wpQuiet_nil ?_
          refine mix_not rfl (by rfl) ?_
          simp only [List.getElem_toArray, List.getElem_cons_zero, List.getElem_cons_succ]
          go_simp
          refine mix_not rfl (by rfl) ?_
          simp only [List.getElem_toArray, List.getElem_cons_zero, List.getElem_cons_succ]
          go_simp
          refine mix_take [26, 27, 28, 29, 30, 31, 32, 33, 34] [_, _, _, _, _, _, _, _, _] rfl rfl ?_
          simp only [List.getElem_toArray, List.getElem_cons_zero, List.getElem_cons_succ]
          repeat (go_big_quiet_step (fail))
          refine wpQuiet_nil ?_
          refine mix_not rfl (by rfl) ?_
          simp only [List.getElem_toArray, List.getElem_cons_zero, List.getElem_cons_succ]
          go_simp
          refine mix_take [36, 37, 38, 39, 40, 41, 42, 43, 44, 45, 46, 47, 48, 49, 50, 51, 52] [_, _, _, _, _, _, _, _, _, _, _, _, _, _, _, _, _] rfl rfl ?_
          simp only [List.getElem_toArray, List.getElem_cons_zero, List.getElem_cons_succ]
          repeat (go_big_quiet_step (fail))
          refine wpQuiet_nil ?_
          refine mix_end ?_
          go_wp2_with fail
          go_meet
          exact ⟨by rw [hok.out]; rfl, hv2⟩
        · by_cases q3 : (fineB r.di = true ∧ fineB r.me = true ∧ fineB r.ta = true)
          · by_cases q4 : r.nm = []
            · by_cases hdc : r.dc = true
              · have c8' := c8
                rw [hdc] at c8'
                clear c8
                have c8 := c8'
                clear c8'
                by_cases q6 : r.ho = 0
                · obtain ⟨hf0, hf1⟩ := r.hfr
                  have d0 : (chk r.a r.m != 0) = false := by simpa using q0
                  have d1 : decide (r.fr < 1) = false := by simp; omega
                  have KC := Lib.hid (fun V (hv : Below W.heap.size W V) => addrCheck_any r.a r.m V r.ha.1 r.ha.2)
                  have d2 : decide (9 ≤ r.fr) = false := by simp; omega
                  have hfa : [r.di, r.me, r.ta].all fineB = true := by simpa using q3
                  have KF := Lib.hid (fun V (hv : Below W.heap.size W V) g (hg : V.heap[g]? = some (.cells #[.int .i64 r.di, .int .i64 r.me, .int .i64 r.ta] 3 (0, 0))) => (hfa ▸ fine_any [r.di, r.me, r.ta] _ V (Rd.of_blk (cs := #[.int .i64 r.di, .int .i64 r.me, .int .i64 r.ta]) (t := 3) hg (Nat.le_refl _) rfl) (by simp) : Calls Tryd.prog 23 #[.slice (some ⟨g, 0, none⟩) 3 3] V fun e V' => e = .returned (.bool true) ∧ Below V.heap.size V V'))
                  have d4 : ((⟨r.nm.toArray⟩ : ByteArray).toList == ([] : List UInt8)) = true := by rw [list_of]; simpa using q4
                  have d5 : r.nm.isEmpty = true := by simpa using q4
                  have d6 : (r.ho != 0) = false := by simpa using q6
                  have hok := Lib.hid (show r.ok = true from rt_ok_yes ⟨q0, by omega, by omega, by simpa using q3, Or.inl q4, fun _ => ⟨q6, q4⟩⟩)
                  try clear q6
                  try clear hdc
                  try clear hdf
                  try clear hnn
                  try clear q5
                  try clear q4
                  have F0 := cell_regrown c0
                  have F1 := cell_regrown c1
                  have F2 := cell_regrown c2
                  have F3 := cell_regrown c3
                  have F4 := cell_regrown c4
                  have F5 := cell_regrown c5
                  have F6 := cell_regrown c6
                  have F7 := cell_regrown c7
                  have F8 := cell_regrown c8
                  refine wp_region_mix [(0, false), (1, false), (2, true), (3, false), (4, false), (5, false), (6, false), (7, false), (8, false), (9, false), (10, false), (11, false), (12, false), (13, true), (14, true), (15, false), (16, false), (17, false), (18, false), (19, false), (20, false), (21, false), (22, false), (23, false), (24, true), (25, true), (26, false), (27, false), (28, false), (29, false), (30, false), (31, false), (32, false), (33, false), (34, false), (35, true), (36, false), (37, false), (38, false), (39, false), (40, false), (41, false), (42, false), (43, false), (44, false), (45, false), (46, false), (47, false), (48, false), (49, false), (50, false), (51, false), (52, false)] (by kernel_rfl) (by kernel_rfl) ?_
                  have hv0 := below_drawn W
                  generalize { W with drawn := W.drawn + 1 } = V0 at *
                  refine mix_take [0, 1] [_, _] rfl rfl ?_
                  simp only [List.getElem_toArray, List.getElem_cons_zero, List.getElem_cons_succ]
                  repeat (go_big_quiet_step (fail))
                  refine wpQuiet_nil ?_
                  refine mix_bar rfl (by rfl) ?_
                  simp only [List.getElem_toArray, List.getElem_cons_zero, List.getElem_cons_succ]
                  go_simp
                  refine (KC.out V0 hv0).mono ?_
                  rintro e V1 ⟨rfl, hb⟩
                  have hv1 := below_call hv0 hb
                  refine ⟨regrown_of_below hv1, ?_⟩
                  clear hb
                  refine mix_take [3, 4, 5, 6, 7, 8, 9, 10, 11, 12] [_, _, _, _, _, _, _, _, _, _] rfl rfl ?_
                  simp only [List.getElem_toArray, List.getElem_cons_zero, List.getElem_cons_succ]
                  repeat (go_big_quiet_step (fail))
                  refine wpQuiet_nil ?_
                  refine mix_bar rfl (by rfl) ?_
                  simp only [List.getElem_toArray, List.getElem_cons_zero, List.getElem_cons_succ]
                  go_simp
                  refine (froms_any V1).mono ?_
                  rintro e _ ⟨rfl, rfl⟩
                  have hgf := heap_alloc_new V1 (.cells fromsBlk 9)
                  have hv2 := hv1.alloc hv1.size (.cells fromsBlk 9)
                  refine ⟨regrown_of_below hv2, ?_⟩
                  generalize V1.alloc (.cells fromsBlk 9) = V2 at *
                  refine mix_bar rfl (by rfl) ?_
                  simp only [List.getElem_toArray, List.getElem_cons_zero, List.getElem_cons_succ]
                  go_simp
                  refine ⟨regrown_of_below hv2, ?_⟩
                  refine mix_take [15, 16, 17, 18, 19, 20, 21, 22, 23] [_, _, _, _, _, _, _, _, _] rfl rfl ?_
                  simp only [List.getElem_toArray, List.getElem_cons_zero, List.getElem_cons_succ]
                  repeat (go_big_quiet_step (fail))
                  refine wpQuiet_nil ?_
                  refine mix_bar rfl (by rfl) ?_
                  simp only [List.getElem_toArray, List.getElem_cons_zero, List.getElem_cons_succ]
                  go_simp
                  have hg := heap_alloc_new V2 (.cells #[.int .i64 r.di, .int .i64 r.me, .int .i64 r.ta] 3)
                  have hv3 := hv2.alloc hv2.size (.cells #[.int .i64 r.di, .int .i64 r.me, .int .i64 r.ta] 3)
                  refine ⟨regrown_of_below hv3, ?_⟩
                  generalize V2.alloc (.cells #[.int .i64 r.di, .int .i64 r.me, .int .i64 r.ta] 3) = V3 at *
                  refine mix_bar rfl (by rfl) ?_
                  simp only [List.getElem_toArray, List.getElem_cons_zero, List.getElem_cons_succ]
                  go_simp
                  refine (KF.out V3 hv3 _ hg).mono ?_
                  rintro e V4 ⟨rfl, hb⟩
                  have hv4 := below_call hv3 hb
                  refine ⟨regrown_of_below hv4, ?_⟩
                  clear hb
                  refine mix_take [26, 27, 28, 29, 30, 31, 32, 33, 34] [_, _, _, _, _, _, _, _, _] rfl rfl ?_
                  simp only [List.getElem_toArray, List.getElem_cons_zero, List.getElem_cons_succ]
                  repeat (go_big_quiet_step (fail))
                  refine wpQuiet_nil ?_
                  refine mix_not rfl (by rfl) ?_
                  simp only [List.getElem_toArray, List.getElem_cons_zero, List.getElem_cons_succ]
                  go_simp
                  refine mix_take [36, 37, 38, 39, 40, 41, 42, 43, 44, 45, 46, 47, 48, 49, 50, 51, 52] [_, _, _, _, _, _, _, _, _, _, _, _, _, _, _, _, _] rfl rfl ?_
                  simp only [List.getElem_toArray, List.getElem_cons_zero, List.getElem_cons_succ]
                  repeat (go_big_quiet_step (fail))
                  refine wpQuiet_nil ?_
                  refine mix_end ?_
                  go_wp2_with fail
                  go_meet
                  exact ⟨by rw [hok.out]; rfl, hv4⟩
                · obtain ⟨hf0, hf1⟩ := r.hfr
                  have d0 : (chk r.a r.m != 0) = false := by simpa using q0
                  have d1 : decide (r.fr < 1) = false := by simp; omega
                  have KC := Lib.hid (fun V (hv : Below W.heap.size W V) => addrCheck_any r.a r.m V r.ha.1 r.ha.2)
                  have d2 : decide (9 ≤ r.fr) = false := by simp; omega
                  have hfa : [r.di, r.me, r.ta].all fineB = true := by simpa using q3
                  have KF := Lib.hid (fun V (hv : Below W.heap.size W V) g (hg : V.heap[g]? = some (.cells #[.int .i64 r.di, .int .i64 r.me, .int .i64 r.ta] 3 (0, 0))) => (hfa ▸ fine_any [r.di, r.me, r.ta] _ V (Rd.of_blk (cs := #[.int .i64 r.di, .int .i64 r.me, .int .i64 r.ta]) (t := 3) hg (Nat.le_refl _) rfl) (by simp) : Calls Tryd.prog 23 #[.slice (some ⟨g, 0, none⟩) 3 3] V fun e V' => e = .returned (.bool true) ∧ Below V.heap.size V V'))
                  have d4 : ((⟨r.nm.toArray⟩ : ByteArray).toList == ([] : List UInt8)) = true := by rw [list_of]; simpa using q4
                  have d5 : r.nm.isEmpty = true := by simpa using q4
                  have d6 : (r.ho != 0) = true := by simpa using q6
                  have hok := Lib.hid (show r.ok = false from rt_ok_no (fun h => q6 (h.2.2.2.2.2 hdc).1))
                  try clear q6
                  try clear hdc
                  try clear hdf
                  try clear hnn
                  try clear q5
                  try clear q4
                  have F0 := cell_regrown c0
                  have F1 := cell_regrown c1
                  have F2 := cell_regrown c2
                  have F3 := cell_regrown c3
                  have F4 := cell_regrown c4
                  have F5 := cell_regrown c5
                  have F6 := cell_regrown c6
                  have F7 := cell_regrown c7
                  have F8 := cell_regrown c8
                  refine wp_region_mix [(0, false), (1, false), (2, true), (3, false), (4, false), (5, false), (6, false), (7, false), (8, false), (9, false), (10, false), (11, false), (12, false), (13, true), (14, true), (15, false), (16, false), (17, false), (18, false), (19, false), (20, false), (21, false), (22, false), (23, false), (24, true), (25, true), (26, false), (27, false), (28, false), (29, false), (30, false), (31, false), (32, false), (33, false), (34, false), (35, true), (36, false), (37, false), (38, false), (39, false), (40, false), (41, false), (42, false), (43, false), (44, false), (45, false), (46, false), (47, false), (48, false), (49, false), (50, false), (51, false), (52, false)] (by kernel_rfl) (by kernel_rfl) ?_
                  have hv0 := below_drawn W
                  generalize { W with drawn := W.drawn + 1 } = V0 at *
                  refine mix_take [0, 1] [_, _] rfl rfl ?_
                  simp only [List.getElem_toArray, List.getElem_cons_zero, List.getElem_cons_succ]
                  repeat (go_big_quiet_step (fail))
                  refine wpQuiet_nil ?_
                  refine mix_bar rfl (by rfl) ?_
                  simp only [List.getElem_toArray, List.getElem_cons_zero, List.getElem_cons_succ]
                  go_simp
                  refine (KC.out V0 hv0).mono ?_
                  rintro e V1 ⟨rfl, hb⟩
                  have hv1 := below_call hv0 hb
                  refine ⟨regrown_of_below hv1, ?_⟩
                  clear hb
                  refine mix_take [3, 4, 5, 6, 7, 8, 9, 10, 11, 12] [_, _, _, _, _, _, _, _, _, _] rfl rfl ?_
                  simp only [List.getElem_toArray, List.getElem_cons_zero, List.getElem_cons_succ]
                  repeat (go_big_quiet_step (fail))
                  refine wpQuiet_nil ?_
                  refine mix_bar rfl (by rfl) ?_
                  simp only [List.getElem_toArray, List.getElem_cons_zero, List.getElem_cons_succ]
                  go_simp
                  refine (froms_any V1).mono ?_
                  rintro e _ ⟨rfl, rfl⟩
                  have hgf := heap_alloc_new V1 (.cells fromsBlk 9)
                  have hv2 := hv1.alloc hv1.size (.cells fromsBlk 9)
                  refine ⟨regrown_of_below hv2, ?_⟩
                  generalize V1.alloc (.cells fromsBlk 9) = V2 at *
                  refine mix_bar rfl (by rfl) ?_
                  simp only [List.getElem_toArray, List.getElem_cons_zero, List.getElem_cons_succ]
                  go_simp
                  refine ⟨regrown_of_below hv2, ?_⟩
                  refine mix_take [15, 16, 17, 18, 19, 20, 21, 22, 23] [_, _, _, _, _, _, _, _, _] rfl rfl ?_
                  simp only [List.getElem_toArray, List.getElem_cons_zero, List.getElem_cons_succ]
                  repeat (go_big_quiet_step (fail))
                  refine wpQuiet_nil ?_
                  refine mix_bar rfl (by rfl) ?_
                  simp only [List.getElem_toArray, List.getElem_cons_zero, List.getElem_cons_succ]
                  go_simp
                  have hg := heap_alloc_new V2 (.cells #[.int .i64 r.di, .int .i64 r.me, .int .i64 r.ta] 3)
                  have hv3 := hv2.alloc hv2.size (.cells #[.int .i64 r.di, .int .i64 r.me, .int .i64 r.ta] 3)
                  refine ⟨regrown_of_below hv3, ?_⟩
                  generalize V2.alloc (.cells #[.int .i64 r.di, .int .i64 r.me, .int .i64 r.ta] 3) = V3 at *
                  refine mix_bar rfl (by rfl) ?_
                  simp only [List.getElem_toArray, List.getElem_cons_zero, List.getElem_cons_succ]
                  go_simp
                  refine (KF.out V3 hv3 _ hg).mono ?_
                  rintro e V4 ⟨rfl, hb⟩
                  have hv4 := below_call hv3 hb
                  refine ⟨regrown_of_below hv4, ?_⟩
                  clear hb
                  refine mix_take [26, 27, 28, 29, 30, 31, 32, 33, 34] [_, _, _, _, _, _, _, _, _] rfl rfl ?_
                  simp only [List.getElem_toArray, List.getElem_cons_zero, List.getElem_cons_succ]
                  repeat (go_big_quiet_step (fail))
                  refine wpQuiet_nil ?_
                  refine mix_not rfl (by rfl) ?_
                  simp only [List.getElem_toArray, List.getElem_cons_zero, List.getElem_cons_succ]
                  go_simp
                  refine mix_take [36, 37, 38, 39, 40, 41, 42, 43, 44, 45, 46, 47, 48, 49, 50, 51, 52] [_, _, _, _, _, _, _, _, _, _, _, _, _, _, _, _, _] rfl rfl ?_
                  simp only [List.getElem_toArray, List.getElem_cons_zero, List.getElem_cons_succ]
                  repeat (go_big_quiet_step (fail))
                  refine wpQuiet_nil ?_
                  refine mix_end ?_
                  go_wp2_with fail
                  go_meet
                  exact ⟨by rw [hok.out]; rfl, hv4⟩
              · have hdf : r.dc = false := by simpa using hdc
                rw [hdf] at c8
                obtain ⟨hf0, hf1⟩ := r.hfr
                have d0 : (chk r.a r.m != 0) = false := by simpa using q0
                have d1 : decide (r.fr < 1) = false := by simp; omega
                have KC := Lib.hid (fun V (hv : Below W.heap.size W V) => addrCheck_any r.a r.m V r.ha.1 r.ha.2)
                have d2 : decide (9 ≤ r.fr) = false := by simp; omega
                have hfa : [r.di, r.me, r.ta].all fineB = true := by simpa using q3
                have KF := Lib.hid (fun V (hv : Below W.heap.size W V) g (hg : V.heap[g]? = some (.cells #[.int .i64 r.di, .int .i64 r.me, .int .i64 r.ta] 3 (0, 0))) => (hfa ▸ fine_any [r.di, r.me, r.ta] _ V (Rd.of_blk (cs := #[.int .i64 r.di, .int .i64 r.me, .int .i64 r.ta]) (t := 3) hg (Nat.le_refl _) rfl) (by simp) : Calls Tryd.prog 23 #[.slice (some ⟨g, 0, none⟩) 3 3] V fun e V' => e = .returned (.bool true) ∧ Below V.heap.size V V'))
                have d4 : ((⟨r.nm.toArray⟩ : ByteArray).toList == ([] : List UInt8)) = true := by rw [list_of]; simpa using q4
                have d5 : r.nm.isEmpty = true := by simpa using q4
                have hok := Lib.hid (show r.ok = true from rt_ok_yes ⟨q0, by omega, by omega, by simpa using q3, Or.inl q4, fun h => absurd h hdc⟩)
                try clear q6
                try clear hdc
                try clear hdf
                try clear hnn
                try clear q5
                try clear q4
                have F0 := cell_regrown c0
                have F1 := cell_regrown c1
                have F2 := cell_regrown c2
                have F3 := cell_regrown c3
                have F4 := cell_regrown c4
                have F5 := cell_regrown c5
                have F6 := cell_regrown c6
                have F7 := cell_regrown c7
                have F8 := cell_regrown c8
                refine wp_region_mix [(0, false), (1, false), (2, true), (3, false), (4, false), (5, false), (6, false), (7, false), (8, false), (9, false), (10, false), (11, false), (12, false), (13, true), (14, true), (15, false), (16, false), (17, false), (18, false), (19, false), (20, false), (21, false), (22, false), (23, false), (24, true), (25, true), (26, false), (27, false), (28, false), (29, false), (30, false), (31, false), (32, false), (33, false), (34, false), (35, true), (36, false), (37, false), (38, false), (39, false), (40, false), (41, false), (42, false), (43, false), (44, false), (45, false), (46, false), (47, false), (48, false), (49, false), (50, false), (51, false), (52, false)] (by kernel_rfl) (by kernel_rfl) ?_
                have hv0 := below_drawn W
                generalize { W with drawn := W.drawn + 1 } = V0 at *
                refine mix_take [0, 1] [_, _] rfl rfl ?_
                simp only [List.getElem_toArray, List.getElem_cons_zero, List.getElem_cons_succ]
                repeat (go_big_quiet_step (fail))
                refine wpQuiet_nil ?_
                refine mix_bar rfl (by rfl) ?_
                simp only [List.getElem_toArray, List.getElem_cons_zero, List.getElem_cons_succ]
                go_simp
                refine (KC.out V0 hv0).mono ?_
                rintro e V1 ⟨rfl, hb⟩
                have hv1 := below_call hv0 hb
                refine ⟨regrown_of_below hv1, ?_⟩
                clear hb
                refine mix_take [3, 4, 5, 6, 7, 8, 9, 10, 11, 12] [_, _, _, _, _, _, _, _, _, _] rfl rfl ?_
                simp only [List.getElem_toArray, List.getElem_cons_zero, List.getElem_cons_succ]
                repeat (go_big_quiet_step (fail))
                refine wpQuiet_nil ?_
                refine mix_bar rfl (by rfl) ?_
                simp only [List.getElem_toArray, List.getElem_cons_zero, List.getElem_cons_succ]
                go_simp
                refine (froms_any V1).mono ?_
                rintro e _ ⟨rfl, rfl⟩
                have hgf := heap_alloc_new V1 (.cells fromsBlk 9)
                have hv2 := hv1.alloc hv1.size (.cells fromsBlk 9)
                refine ⟨regrown_of_below hv2, ?_⟩
                generalize V1.alloc (.cells fromsBlk 9) = V2 at *
                refine mix_bar rfl (by rfl) ?_
                simp only [List.getElem_toArray, List.getElem_cons_zero, List.getElem_cons_succ]
                go_simp
                refine ⟨regrown_of_below hv2, ?_⟩
                refine mix_take [15, 16, 17, 18, 19, 20, 21, 22, 23] [_, _, _, _, _, _, _, _, _] rfl rfl ?_
                simp only [List.getElem_toArray, List.getElem_cons_zero, List.getElem_cons_succ]
                repeat (go_big_quiet_step (fail))
                refine wpQuiet_nil ?_
                refine mix_bar rfl (by rfl) ?_
                simp only [List.getElem_toArray, List.getElem_cons_zero, List.getElem_cons_succ]
                go_simp
                have hg := heap_alloc_new V2 (.cells #[.int .i64 r.di, .int .i64 r.me, .int .i64 r.ta] 3)
                have hv3 := hv2.alloc hv2.size (.cells #[.int .i64 r.di, .int .i64 r.me, .int .i64 r.ta] 3)
                refine ⟨regrown_of_below hv3, ?_⟩
                generalize V2.alloc (.cells #[.int .i64 r.di, .int .i64 r.me, .int .i64 r.ta] 3) = V3 at *
                refine mix_bar rfl (by rfl) ?_
                simp only [List.getElem_toArray, List.getElem_cons_zero, List.getElem_cons_succ]
                go_simp
                refine (KF.out V3 hv3 _ hg).mono ?_
                rintro e V4 ⟨rfl, hb⟩
                have hv4 := below_call hv3 hb
                refine ⟨regrown_of_below hv4, ?_⟩
                clear hb
                refine mix_take [26, 27, 28, 29, 30, 31, 32, 33, 34] [_, _, _, _, _, _, _, _, _] rfl rfl ?_
                simp only [List.getElem_toArray, List.getElem_cons_zero, List.getElem_cons_succ]
                repeat (go_big_quiet_step (fail))
                refine wpQuiet_nil ?_
                refine mix_not rfl (by rfl) ?_
                simp only [List.getElem_toArray, List.getElem_cons_zero, List.getElem_cons_succ]
                go_simp
                refine mix_take [36, 37, 38, 39, 40, 41, 42, 43, 44, 45, 46, 47, 48, 49, 50, 51, 52] [_, _, _, _, _, _, _, _, _, _, _, _, _, _, _, _, _] rfl rfl ?_
                simp only [List.getElem_toArray, List.getElem_cons_zero, List.getElem_cons_succ]
                repeat (go_big_quiet_step (fail))
                refine wpQuiet_nil ?_
                refine mix_end ?_
                go_wp2_with fail
                go_meet
                exact ⟨by rw [hok.out]; rfl, hv4⟩
            · cases q5 : nameB r.nm with
              | false =>
                obtain ⟨hf0, hf1⟩ := r.hfr
                have d0 : (chk r.a r.m != 0) = false := by simpa using q0
                have d1 : decide (r.fr < 1) = false := by simp; omega
                have KC := Lib.hid (fun V (hv : Below W.heap.size W V) => addrCheck_any r.a r.m V r.ha.1 r.ha.2)
                have d2 : decide (9 ≤ r.fr) = false := by simp; omega
                have hfa : [r.di, r.me, r.ta].all fineB = true := by simpa using q3
                have KF := Lib.hid (fun V (hv : Below W.heap.size W V) g (hg : V.heap[g]? = some (.cells #[.int .i64 r.di, .int .i64 r.me, .int .i64 r.ta] 3 (0, 0))) => (hfa ▸ fine_any [r.di, r.me, r.ta] _ V (Rd.of_blk (cs := #[.int .i64 r.di, .int .i64 r.me, .int .i64 r.ta]) (t := 3) hg (Nat.le_refl _) rfl) (by simp) : Calls Tryd.prog 23 #[.slice (some ⟨g, 0, none⟩) 3 3] V fun e V' => e = .returned (.bool true) ∧ Below V.heap.size V V'))
                have d4 : ((⟨r.nm.toArray⟩ : ByteArray).toList == ([] : List UInt8)) = false := by rw [list_of]; simpa using q4
                have d5 : r.nm.isEmpty = false := by simpa using q4
                have hnn := hN q4
                have KN := Lib.hid (fun V (hv : Below W.heap.size W V) => (q5 ▸ hnn V (hE0.below hv) : Calls Tryd.prog 24 #[.string ⟨r.nm.toArray⟩] V fun e V' => e = .returned (.bool false) ∧ Below V.heap.size V V'))
                have hok := Lib.hid (show r.ok = false from rt_ok_no (fun h => by rcases h.2.2.2.2.1 with h2 | h2; exact q4 h2; rw [q5] at h2; cases h2))
                try clear q6
                try clear hdc
                try clear hdf
                try clear hnn
                try clear q5
                try clear q4
                have F0 := cell_regrown c0
                have F1 := cell_regrown c1
                have F2 := cell_regrown c2
                have F3 := cell_regrown c3
                have F4 := cell_regrown c4
                have F5 := cell_regrown c5
                have F6 := cell_regrown c6
                have F7 := cell_regrown c7
                have F8 := cell_regrown c8
                refine wp_region_mix [(0, false), (1, false), (2, true), (3, false), (4, false), (5, false), (6, false), (7, false), (8, false), (9, false), (10, false), (11, false), (12, false), (13, true), (14, true), (15, false), (16, false), (17, false), (18, false), (19, false), (20, false), (21, false), (22, false), (23, false), (24, true), (25, true), (26, false), (27, false), (28, false), (29, false), (30, false), (31, false), (32, false), (33, false), (34, false), (35, true), (36, false), (37, false), (38, false), (39, false), (40, false), (41, false), (42, false), (43, false), (44, false), (45, false), (46, false), (47, false), (48, false), (49, false), (50, false), (51, false), (52, false)] (by kernel_rfl) (by kernel_rfl) ?_
                have hv0 := below_drawn W
                generalize { W with drawn := W.drawn + 1 } = V0 at *
                refine mix_take [0, 1] [_, _] rfl rfl ?_
                simp only [List.getElem_toArray, List.getElem_cons_zero, List.getElem_cons_succ]
                repeat (go_big_quiet_step (fail))
                refine wpQuiet_nil ?_
                refine mix_bar rfl (by rfl) ?_
                simp only [List.getElem_toArray, List.getElem_cons_zero, List.getElem_cons_succ]
                go_simp
                refine (KC.out V0 hv0).mono ?_
                rintro e V1 ⟨rfl, hb⟩
                have hv1 := below_call hv0 hb
                refine ⟨regrown_of_below hv1, ?_⟩
                clear hb
                refine mix_take [3, 4, 5, 6, 7, 8, 9, 10, 11, 12] [_, _, _, _, _, _, _, _, _, _] rfl rfl ?_
                simp only [List.getElem_toArray, List.getElem_cons_zero, List.getElem_cons_succ]
                repeat (go_big_quiet_step (fail))
                refine wpQuiet_nil ?_
                refine mix_bar rfl (by rfl) ?_
                simp only [List.getElem_toArray, List.getElem_cons_zero, List.getElem_cons_succ]
                go_simp
                refine (froms_any V1).mono ?_
                rintro e _ ⟨rfl, rfl⟩
                have hgf := heap_alloc_new V1 (.cells fromsBlk 9)
                have hv2 := hv1.alloc hv1.size (.cells fromsBlk 9)
                refine ⟨regrown_of_below hv2, ?_⟩
                generalize V1.alloc (.cells fromsBlk 9) = V2 at *
                refine mix_bar rfl (by rfl) ?_
                simp only [List.getElem_toArray, List.getElem_cons_zero, List.getElem_cons_succ]
                go_simp
                refine ⟨regrown_of_below hv2, ?_⟩
                refine mix_take [15, 16, 17, 18, 19, 20, 21, 22, 23] [_, _, _, _, _, _, _, _, _] rfl rfl ?_
                simp only [List.getElem_toArray, List.getElem_cons_zero, List.getElem_cons_succ]
                repeat (go_big_quiet_step (fail))
                refine wpQuiet_nil ?_
                refine mix_bar rfl (by rfl) ?_
                simp only [List.getElem_toArray, List.getElem_cons_zero, List.getElem_cons_succ]
                go_simp
                have hg := heap_alloc_new V2 (.cells #[.int .i64 r.di, .int .i64 r.me, .int .i64 r.ta] 3)
                have hv3 := hv2.alloc hv2.size (.cells #[.int .i64 r.di, .int .i64 r.me, .int .i64 r.ta] 3)
                refine ⟨regrown_of_below hv3, ?_⟩
                generalize V2.alloc (.cells #[.int .i64 r.di, .int .i64 r.me, .int .i64 r.ta] 3) = V3 at *
                refine mix_bar rfl (by rfl) ?_
                simp only [List.getElem_toArray, List.getElem_cons_zero, List.getElem_cons_succ]
                go_simp
                refine (KF.out V3 hv3 _ hg).mono ?_
                rintro e V4 ⟨rfl, hb⟩
                have hv4 := below_call hv3 hb
                refine ⟨regrown_of_below hv4, ?_⟩
                clear hb
                refine mix_take [26, 27, 28, 29, 30, 31, 32, 33, 34] [_, _, _, _, _, _, _, _, _] rfl rfl ?_
                simp only [List.getElem_toArray, List.getElem_cons_zero, List.getElem_cons_succ]
                repeat (go_big_quiet_step (fail))
                refine wpQuiet_nil ?_
                refine mix_bar rfl (by rfl) ?_
                simp only [List.getElem_toArray, List.getElem_cons_zero, List.getElem_cons_succ]
                go_simp
                refine (KN.out V4 hv4).mono ?_
                rintro e V5 ⟨rfl, hb⟩
                have hv5 := below_call hv4 hb
                refine ⟨regrown_of_below hv5, ?_⟩
                clear hb
                refine mix_take [36, 37, 38, 39, 40, 41, 42, 43, 44, 45, 46, 47, 48, 49, 50, 51, 52] [_, _, _, _, _, _, _, _, _, _, _, _, _, _, _, _, _] rfl rfl ?_
                simp only [List.getElem_toArray, List.getElem_cons_zero, List.getElem_cons_succ]
                repeat (go_big_quiet_step (fail))
                refine wpQuiet_nil ?_
                refine mix_end ?_
                go_wp2_with fail
                go_meet
                exact ⟨by rw [hok.out]; rfl, hv5⟩
              | true =>
                by_cases hdc : r.dc = true
                · have c8' := c8
                  rw [hdc] at c8'
                  clear c8
                  have c8 := c8'
                  clear c8'
                  by_cases q6 : r.ho = 0
                  · obtain ⟨hf0, hf1⟩ := r.hfr
                    have d0 : (chk r.a r.m != 0) = false := by simpa using q0
                    have d1 : decide (r.fr < 1) = false := by simp; omega
                    have KC := Lib.hid (fun V (hv : Below W.heap.size W V) => addrCheck_any r.a r.m V r.ha.1 r.ha.2)
                    have d2 : decide (9 ≤ r.fr) = false := by simp; omega
                    have hfa : [r.di, r.me, r.ta].all fineB = true := by simpa using q3
                    have KF := Lib.hid (fun V (hv : Below W.heap.size W V) g (hg : V.heap[g]? = some (.cells #[.int .i64 r.di, .int .i64 r.me, .int .i64 r.ta] 3 (0, 0))) => (hfa ▸ fine_any [r.di, r.me, r.ta] _ V (Rd.of_blk (cs := #[.int .i64 r.di, .int .i64 r.me, .int .i64 r.ta]) (t := 3) hg (Nat.le_refl _) rfl) (by simp) : Calls Tryd.prog 23 #[.slice (some ⟨g, 0, none⟩) 3 3] V fun e V' => e = .returned (.bool true) ∧ Below V.heap.size V V'))
                    have d4 : ((⟨r.nm.toArray⟩ : ByteArray).toList == ([] : List UInt8)) = false := by rw [list_of]; simpa using q4
                    have d5 : r.nm.isEmpty = false := by simpa using q4
                    have hnn := hN q4
                    have KN := Lib.hid (fun V (hv : Below W.heap.size W V) => (q5 ▸ hnn V (hE0.below hv) : Calls Tryd.prog 24 #[.string ⟨r.nm.toArray⟩] V fun e V' => e = .returned (.bool true) ∧ Below V.heap.size V V'))
                    have d6 : (r.ho != 0) = false := by simpa using q6
                    have hok := Lib.hid (show r.ok = false from rt_ok_no (fun h => q4 (h.2.2.2.2.2 hdc).2))
                    try clear q6
                    try clear hdc
                    try clear hdf
                    try clear hnn
                    try clear q5
                    try clear q4
                    have F0 := cell_regrown c0
                    have F1 := cell_regrown c1
                    have F2 := cell_regrown c2
                    have F3 := cell_regrown c3
                    have F4 := cell_regrown c4
                    have F5 := cell_regrown c5
                    have F6 := cell_regrown c6
                    have F7 := cell_regrown c7
                    have F8 := cell_regrown c8
                    refine wp_region_mix [(0, false), (1, false), (2, true), (3, false), (4, false), (5, false), (6, false), (7, false), (8, false), (9, false), (10, false), (11, false), (12, false), (13, true), (14, true), (15, false), (16, false), (17, false), (18, false), (19, false), (20, false), (21, false), (22, false), (23, false), (24, true), (25, true), (26, false), (27, false), (28, false), (29, false), (30, false), (31, false), (32, false), (33, false), (34, false), (35, true), (36, false), (37, false), (38, false), (39, false), (40, false), (41, false), (42, false), (43, false), (44, false), (45, false), (46, false), (47, false), (48, false), (49, false), (50, false), (51, false), (52, false)] (by kernel_rfl) (by kernel_rfl) ?_
                    have hv0 := below_drawn W
                    generalize { W with drawn := W.drawn + 1 } = V0 at *
                    refine mix_take [0, 1] [_, _] rfl rfl ?_
                    simp only [List.getElem_toArray, List.getElem_cons_zero, List.getElem_cons_succ]
                    repeat (go_big_quiet_step (fail))
                    refine wpQuiet_nil ?_
                    refine mix_bar rfl (by rfl) ?_
                    simp only [List.getElem_toArray, List.getElem_cons_zero, List.getElem_cons_succ]
                    go_simp
                    refine (KC.out V0 hv0).mono ?_
                    rintro e V1 ⟨rfl, hb⟩
                    have hv1 := below_call hv0 hb
                    refine ⟨regrown_of_below hv1, ?_⟩
                    clear hb
                    refine mix_take [3, 4, 5, 6, 7, 8, 9, 10, 11, 12] [_, _, _, _, _, _, _, _, _, _] rfl rfl ?_
                    simp only [List.getElem_toArray, List.getElem_cons_zero, List.getElem_cons_succ]
                    repeat (go_big_quiet_step (fail))
                    refine wpQuiet_nil ?_
                    refine mix_bar rfl (by rfl) ?_
                    simp only [List.getElem_toArray, List.getElem_cons_zero, List.getElem_cons_succ]
                    go_simp
                    refine (froms_any V1).mono ?_
                    rintro e _ ⟨rfl, rfl⟩
                    have hgf := heap_alloc_new V1 (.cells fromsBlk 9)
                    have hv2 := hv1.alloc hv1.size (.cells fromsBlk 9)
                    refine ⟨regrown_of_below hv2, ?_⟩
                    generalize V1.alloc (.cells fromsBlk 9) = V2 at *
                    refine mix_bar rfl (by rfl) ?_
                    simp only [List.getElem_toArray, List.getElem_cons_zero, List.getElem_cons_succ]
                    go_simp
                    refine ⟨regrown_of_below hv2, ?_⟩
                    refine mix_take [15, 16, 17, 18, 19, 20, 21, 22, 23] [_, _, _, _, _, _, _, _, _] rfl rfl ?_
                    simp only [List.getElem_toArray, List.getElem_cons_zero, List.getElem_cons_succ]
                    repeat (go_big_quiet_step (fail))
                    refine wpQuiet_nil ?_
                    refine mix_bar rfl (by rfl) ?_
                    simp only [List.getElem_toArray, List.getElem_cons_zero, List.getElem_cons_succ]
                    go_simp
                    have hg := heap_alloc_new V2 (.cells #[.int .i64 r.di, .int .i64 r.me, .int .i64 r.ta] 3)
                    have hv3 := hv2.alloc hv2.size (.cells #[.int .i64 r.di, .int .i64 r.me, .int .i64 r.ta] 3)
                    refine ⟨regrown_of_below hv3, ?_⟩
                    generalize V2.alloc (.cells #[.int .i64 r.di, .int .i64 r.me, .int .i64 r.ta] 3) = V3 at *
                    refine mix_bar rfl (by rfl) ?_
                    simp only [List.getElem_toArray, List.getElem_cons_zero, List.getElem_cons_succ]
                    go_simp
                    refine (KF.out V3 hv3 _ hg).mono ?_
                    rintro e V4 ⟨rfl, hb⟩
                    have hv4 := below_call hv3 hb
                    refine ⟨regrown_of_below hv4, ?_⟩
                    clear hb
                    refine mix_take [26, 27, 28, 29, 30, 31, 32, 33, 34] [_, _, _, _, _, _, _, _, _] rfl rfl ?_
                    simp only [List.getElem_toArray, List.getElem_cons_zero, List.getElem_cons_succ]
                    repeat (go_big_quiet_step (fail))
                    refine wpQuiet_nil ?_
                    refine mix_bar rfl (by rfl) ?_
                    simp only [List.getElem_toArray, List.getElem_cons_zero, List.getElem_cons_succ]
                    go_simp
                    refine (KN.out V4 hv4).mono ?_
                    rintro e V5 ⟨rfl, hb⟩
                    have hv5 := below_call hv4 hb
                    refine ⟨regrown_of_below hv5, ?_⟩
                    clear hb
                    refine mix_take [36, 37, 38, 39, 40, 41, 42, 43, 44, 45, 46, 47, 48, 49, 50, 51, 52] [_, _, _, _, _, _, _, _, _, _, _, _, _, _, _, _, _] rfl rfl ?_
                    simp only [List.getElem_toArray, List.getElem_cons_zero, List.getElem_cons_succ]
                    repeat (go_big_quiet_step (fail))
                    refine wpQuiet_nil ?_
                    refine mix_end ?_
                    go_wp2_with fail
                    go_meet
                    exact ⟨by rw [hok.out]; rfl, hv5⟩
                  · obtain ⟨hf0, hf1⟩ := r.hfr
                    have d0 : (chk r.a r.m != 0) = false := by simpa using q0
                    have d1 : decide (r.fr < 1) = false := by simp; omega
                    have KC := Lib.hid (fun V (hv : Below W.heap.size W V) => addrCheck_any r.a r.m V r.ha.1 r.ha.2)
                    have d2 : decide (9 ≤ r.fr) = false := by simp; omega
                    have hfa : [r.di, r.me, r.ta].all fineB = true := by simpa using q3
                    have KF := Lib.hid (fun V (hv : Below W.heap.size W V) g (hg : V.heap[g]? = some (.cells #[.int .i64 r.di, .int .i64 r.me, .int .i64 r.ta] 3 (0, 0))) => (hfa ▸ fine_any [r.di, r.me, r.ta] _ V (Rd.of_blk (cs := #[.int .i64 r.di, .int .i64 r.me, .int .i64 r.ta]) (t := 3) hg (Nat.le_refl _) rfl) (by simp) : Calls Tryd.prog 23 #[.slice (some ⟨g, 0, none⟩) 3 3] V fun e V' => e = .returned (.bool true) ∧ Below V.heap.size V V'))
                    have d4 : ((⟨r.nm.toArray⟩ : ByteArray).toList == ([] : List UInt8)) = false := by rw [list_of]; simpa using q4
                    have d5 : r.nm.isEmpty = false := by simpa using q4
                    have hnn := hN q4
                    have KN := Lib.hid (fun V (hv : Below W.heap.size W V) => (q5 ▸ hnn V (hE0.below hv) : Calls Tryd.prog 24 #[.string ⟨r.nm.toArray⟩] V fun e V' => e = .returned (.bool true) ∧ Below V.heap.size V V'))
                    have d6 : (r.ho != 0) = true := by simpa using q6
                    have hok := Lib.hid (show r.ok = false from rt_ok_no (fun h => q6 (h.2.2.2.2.2 hdc).1))
                    try clear q6
                    try clear hdc
                    try clear hdf
                    try clear hnn
                    try clear q5
                    try clear q4
                    have F0 := cell_regrown c0
                    have F1 := cell_regrown c1
                    have F2 := cell_regrown c2
                    have F3 := cell_regrown c3
                    have F4 := cell_regrown c4
                    have F5 := cell_regrown c5
                    have F6 := cell_regrown c6
                    have F7 := cell_regrown c7
                    have F8 := cell_regrown c8
                    refine wp_region_mix [(0, false), (1, false), (2, true), (3, false), (4, false), (5, false), (6, false), (7, false), (8, false), (9, false), (10, false), (11, false), (12, false), (13, true), (14, true), (15, false), (16, false), (17, false), (18, false), (19, false), (20, false), (21, false), (22, false), (23, false), (24, true), (25, true), (26, false), (27, false), (28, false), (29, false), (30, false), (31, false), (32, false), (33, false), (34, false), (35, true), (36, false), (37, false), (38, false), (39, false), (40, false), (41, false), (42, false), (43, false), (44, false), (45, false), (46, false), (47, false), (48, false), (49, false), (50, false), (51, false), (52, false)] (by kernel_rfl) (by kernel_rfl) ?_
                    have hv0 := below_drawn W
                    generalize { W with drawn := W.drawn + 1 } = V0 at *
                    refine mix_take [0, 1] [_, _] rfl rfl ?_
                    simp only [List.getElem_toArray, List.getElem_cons_zero, List.getElem_cons_succ]
                    repeat (go_big_quiet_step (fail))
                    refine wpQuiet_nil ?_
                    refine mix_bar rfl (by rfl) ?_
                    simp only [List.getElem_toArray, List.getElem_cons_zero, List.getElem_cons_succ]
                    go_simp
                    refine (KC.out V0 hv0).mono ?_
                    rintro e V1 ⟨rfl, hb⟩
                    have hv1 := below_call hv0 hb
                    refine ⟨regrown_of_below hv1, ?_⟩
                    clear hb
                    refine mix_take [3, 4, 5, 6, 7, 8, 9, 10, 11, 12] [_, _, _, _, _, _, _, _, _, _] rfl rfl ?_
                    simp only [List.getElem_toArray, List.getElem_cons_zero, List.getElem_cons_succ]
                    repeat (go_big_quiet_step (fail))
                    refine wpQuiet_nil ?_
                    refine mix_bar rfl (by rfl) ?_
                    simp only [List.getElem_toArray, List.getElem_cons_zero, List.getElem_cons_succ]
                    go_simp
                    refine (froms_any V1).mono ?_
                    rintro e _ ⟨rfl, rfl⟩
                    have hgf := heap_alloc_new V1 (.cells fromsBlk 9)
                    have hv2 := hv1.alloc hv1.size (.cells fromsBlk 9)
                    refine ⟨regrown_of_below hv2, ?_⟩
                    generalize V1.alloc (.cells fromsBlk 9) = V2 at *
                    refine mix_bar rfl (by rfl) ?_
                    simp only [List.getElem_toArray, List.getElem_cons_zero, List.getElem_cons_succ]
                    go_simp
                    refine ⟨regrown_of_below hv2, ?_⟩
                    refine mix_take [15, 16, 17, 18, 19, 20, 21, 22, 23] [_, _, _, _, _, _, _, _, _] rfl rfl ?_
                    simp only [List.getElem_toArray, List.getElem_cons_zero, List.getElem_cons_succ]
                    repeat (go_big_quiet_step (fail))
                    refine wpQuiet_nil ?_
                    refine mix_bar rfl (by rfl) ?_
                    simp only [List.getElem_toArray, List.getElem_cons_zero, List.getElem_cons_succ]
                    go_simp
                    have hg := heap_alloc_new V2 (.cells #[.int .i64 r.di, .int .i64 r.me, .int .i64 r.ta] 3)
                    have hv3 := hv2.alloc hv2.size (.cells #[.int .i64 r.di, .int .i64 r.me, .int .i64 r.ta] 3)
                    refine ⟨regrown_of_below hv3, ?_⟩
                    generalize V2.alloc (.cells #[.int .i64 r.di, .int .i64 r.me, .int .i64 r.ta] 3) = V3 at *
                    refine mix_bar rfl (by rfl) ?_
                    simp only [List.getElem_toArray, List.getElem_cons_zero, List.getElem_cons_succ]
                    go_simp
                    refine (KF.out V3 hv3 _ hg).mono ?_
                    rintro e V4 ⟨rfl, hb⟩
                    have hv4 := below_call hv3 hb
                    refine ⟨regrown_of_below hv4, ?_⟩
                    clear hb
                    refine mix_take [26, 27, 28, 29, 30, 31, 32, 33, 34] [_, _, _, _, _, _, _, _, _] rfl rfl ?_
                    simp only [List.getElem_toArray, List.getElem_cons_zero, List.getElem_cons_succ]
                    repeat (go_big_quiet_step (fail))
                    refine wpQuiet_nil ?_
                    refine mix_bar rfl (by rfl) ?_
                    simp only [List.getElem_toArray, List.getElem_cons_zero, List.getElem_cons_succ]
                    go_simp
                    refine (KN.out V4 hv4).mono ?_
                    rintro e V5 ⟨rfl, hb⟩
                    have hv5 := below_call hv4 hb
                    refine ⟨regrown_of_below hv5, ?_⟩
                    clear hb
                    refine mix_take [36, 37, 38, 39, 40, 41, 42, 43, 44, 45, 46, 47, 48, 49, 50, 51, 52] [_, _, _, _, _, _, _, _, _, _, _, _, _, _, _, _, _] rfl rfl ?_
                    simp only [List.getElem_toArray, List.getElem_cons_zero, List.getElem_cons_succ]
                    repeat (go_big_quiet_step (fail))
                    refine wpQuiet_nil ?_
                    refine mix_end ?_
                    go_wp2_with fail
                    go_meet
                    exact ⟨by rw [hok.out]; rfl, hv5⟩
                · have hdf : r.dc = false := by simpa using hdc
                  rw [hdf] at c8
                  obtain ⟨hf0, hf1⟩ := r.hfr
                  have d0 : (chk r.a r.m != 0) = false := by simpa using q0
                  have d1 : decide (r.fr < 1) = false := by simp; omega
                  have KC := Lib.hid (fun V (hv : Below W.heap.size W V) => addrCheck_any r.a r.m V r.ha.1 r.ha.2)
                  have d2 : decide (9 ≤ r.fr) = false := by simp; omega
                  have hfa : [r.di, r.me, r.ta].all fineB = true := by simpa using q3
                  have KF := Lib.hid (fun V (hv : Below W.heap.size W V) g (hg : V.heap[g]? = some (.cells #[.int .i64 r.di, .int .i64 r.me, .int .i64 r.ta] 3 (0, 0))) => (hfa ▸ fine_any [r.di, r.me, r.ta] _ V (Rd.of_blk (cs := #[.int .i64 r.di, .int .i64 r.me, .int .i64 r.ta]) (t := 3) hg (Nat.le_refl _) rfl) (by simp) : Calls Tryd.prog 23 #[.slice (some ⟨g, 0, none⟩) 3 3] V fun e V' => e = .returned (.bool true) ∧ Below V.heap.size V V'))
                  have d4 : ((⟨r.nm.toArray⟩ : ByteArray).toList == ([] : List UInt8)) = false := by rw [list_of]; simpa using q4
                  have d5 : r.nm.isEmpty = false := by simpa using q4
                  have hnn := hN q4
                  have KN := Lib.hid (fun V (hv : Below W.heap.size W V) => (q5 ▸ hnn V (hE0.below hv) : Calls Tryd.prog 24 #[.string ⟨r.nm.toArray⟩] V fun e V' => e = .returned (.bool true) ∧ Below V.heap.size V V'))
                  have hok := Lib.hid (show r.ok = true from rt_ok_yes ⟨q0, by omega, by omega, by simpa using q3, Or.inr q5, fun h => absurd h hdc⟩)
                  try clear q6
                  try clear hdc
                  try clear hdf
                  try clear hnn
                  try clear q5
                  try clear q4
                  have F0 := cell_regrown c0
                  have F1 := cell_regrown c1
                  have F2 := cell_regrown c2
                  have F3 := cell_regrown c3
                  have F4 := cell_regrown c4
                  have F5 := cell_regrown c5
                  have F6 := cell_regrown c6
                  have F7 := cell_regrown c7
                  have F8 := cell_regrown c8
                  refine wp_region_mix [(0, false), (1, false), (2, true), (3, false), (4, false), (5, false), (6, false), (7, false), (8, false), (9, false), (10, false), (11, false), (12, false), (13, true), (14, true), (15, false), (16, false), (17, false), (18, false), (19, false), (20, false), (21, false), (22, false), (23, false), (24, true), (25, true), (26, false), (27, false), (28, false), (29, false), (30, false), (31, false), (32, false), (33, false), (34, false), (35, true), (36, false), (37, false), (38, false), (39, false), (40, false), (41, false), (42, false), (43, false), (44, false), (45, false), (46, false), (47, false), (48, false), (49, false), (50, false), (51, false), (52, false)] (by kernel_rfl) (by kernel_rfl) ?_
                  have hv0 := below_drawn W
                  generalize { W with drawn := W.drawn + 1 } = V0 at *
                  refine mix_take [0, 1] [_, _] rfl rfl ?_
                  simp only [List.getElem_toArray, List.getElem_cons_zero, List.getElem_cons_succ]
                  repeat (go_big_quiet_step (fail))
                  refine wpQuiet_nil ?_
                  refine mix_bar rfl (by rfl) ?_
                  simp only [List.getElem_toArray, List.getElem_cons_zero, List.getElem_cons_succ]
                  go_simp
                  refine (KC.out V0 hv0).mono ?_
                  rintro e V1 ⟨rfl, hb⟩
                  have hv1 := below_call hv0 hb
                  refine ⟨regrown_of_below hv1, ?_⟩
                  clear hb
                  refine mix_take [3, 4, 5, 6, 7, 8, 9, 10, 11, 12] [_, _, _, _, _, _, _, _, _, _] rfl rfl ?_
                  simp only [List.getElem_toArray, List.getElem_cons_zero, List.getElem_cons_succ]
                  repeat (go_big_quiet_step (fail))
                  refine wpQuiet_nil ?_
                  refine mix_bar rfl (by rfl) ?_
                  simp only [List.getElem_toArray, List.getElem_cons_zero, List.getElem_cons_succ]
                  go_simp
                  refine (froms_any V1).mono ?_
                  rintro e _ ⟨rfl, rfl⟩
                  have hgf := heap_alloc_new V1 (.cells fromsBlk 9)
                  have hv2 := hv1.alloc hv1.size (.cells fromsBlk 9)
                  refine ⟨regrown_of_below hv2, ?_⟩
                  generalize V1.alloc (.cells fromsBlk 9) = V2 at *
                  refine mix_bar rfl (by rfl) ?_
                  simp only [List.getElem_toArray, List.getElem_cons_zero, List.getElem_cons_succ]
                  go_simp
                  refine ⟨regrown_of_below hv2, ?_⟩
                  refine mix_take [15, 16, 17, 18, 19, 20, 21, 22, 23] [_, _, _, _, _, _, _, _, _] rfl rfl ?_
                  simp only [List.getElem_toArray, List.getElem_cons_zero, List.getElem_cons_succ]
                  repeat (go_big_quiet_step (fail))
                  refine wpQuiet_nil ?_
                  refine mix_bar rfl (by rfl) ?_
                  simp only [List.getElem_toArray, List.getElem_cons_zero, List.getElem_cons_succ]
                  go_simp
                  have hg := heap_alloc_new V2 (.cells #[.int .i64 r.di, .int .i64 r.me, .int .i64 r.ta] 3)
                  have hv3 := hv2.alloc hv2.size (.cells #[.int .i64 r.di, .int .i64 r.me, .int .i64 r.ta] 3)
                  refine ⟨regrown_of_below hv3, ?_⟩
                  generalize V2.alloc (.cells #[.int .i64 r.di, .int .i64 r.me, .int .i64 r.ta] 3) = V3 at *
                  refine mix_bar rfl (by rfl) ?_
                  simp only [List.getElem_toArray, List.getElem_cons_zero, List.getElem_cons_succ]
                  go_simp
                  refine (KF.out V3 hv3 _ hg).mono ?_
                  rintro e V4 ⟨rfl, hb⟩
                  have hv4 := below_call hv3 hb
                  refine ⟨regrown_of_below hv4, ?_⟩
                  clear hb
                  refine mix_take [26, 27, 28, 29, 30, 31, 32, 33, 34] [_, _, _, _, _, _, _, _, _] rfl rfl ?_
                  simp only [List.getElem_toArray, List.getElem_cons_zero, List.getElem_cons_succ]
                  repeat (go_big_quiet_step (fail))
                  refine wpQuiet_nil ?_
                  refine mix_bar rfl (by rfl) ?_
                  simp only [List.getElem_toArray, List.getElem_cons_zero, List.getElem_cons_succ]
                  go_simp
                  refine (KN.out V4 hv4).mono ?_
                  rintro e V5 ⟨rfl, hb⟩
                  have hv5 := below_call hv4 hb
                  refine ⟨regrown_of_below hv5, ?_⟩
                  clear hb
                  refine mix_take [36, 37, 38, 39, 40, 41, 42, 43, 44, 45, 46, 47, 48, 49, 50, 51, 52] [_, _, _, _, _, _, _, _, _, _, _, _, _, _, _, _, _] rfl rfl ?_
                  simp only [List.getElem_toArray, List.getElem_cons_zero, List.getElem_cons_succ]
                  repeat (go_big_quiet_step (fail))
                  refine wpQuiet_nil ?_
                  refine mix_end ?_
                  go_wp2_with fail
                  go_meet
                  exact ⟨by rw [hok.out]; rfl, hv5⟩
          · obtain ⟨hf0, hf1⟩ := r.hfr
            have d0 : (chk r.a r.m != 0) = false := by simpa using q0
            have d1 : decide (r.fr < 1) = false := by simp; omega
            have KC := Lib.hid (fun V (hv : Below W.heap.size W V) => addrCheck_any r.a r.m V r.ha.1 r.ha.2)
            have d2 : decide (9 ≤ r.fr) = false := by simp; omega
            have hfa : [r.di, r.me, r.ta].all fineB = false := by simpa using q3
            have KF := Lib.hid (fun V (hv : Below W.heap.size W V) g (hg : V.heap[g]? = some (.cells #[.int .i64 r.di, .int .i64 r.me, .int .i64 r.ta] 3 (0, 0))) => (hfa ▸ fine_any [r.di, r.me, r.ta] _ V (Rd.of_blk (cs := #[.int .i64 r.di, .int .i64 r.me, .int .i64 r.ta]) (t := 3) hg (Nat.le_refl _) rfl) (by simp) : Calls Tryd.prog 23 #[.slice (some ⟨g, 0, none⟩) 3 3] V fun e V' => e = .returned (.bool false) ∧ Below V.heap.size V V'))
            have hok := Lib.hid (show r.ok = false from rt_ok_no (fun h => by have h2 := h.2.2.2.1; simp [h2] at q3))
            try clear q6
            try clear hdc
            try clear hdf
            try clear hnn
            try clear q5
            try clear q4
            have F0 := cell_regrown c0
            have F1 := cell_regrown c1
            have F2 := cell_regrown c2
            have F3 := cell_regrown c3
            have F4 := cell_regrown c4
            have F5 := cell_regrown c5
            have F6 := cell_regrown c6
            have F7 := cell_regrown c7
            have F8 := cell_regrown c8
            refine wp_region_mix [(0, false), (1, false), (2, true), (3, false), (4, false), (5, false), (6, false), (7, false), (8, false), (9, false), (10, false), (11, false), (12, false), (13, true), (14, true), (15, false), (16, false), (17, false), (18, false), (19, false), (20, false), (21, false), (22, false), (23, false), (24, true), (25, true), (26, false), (27, false), (28, false), (29, false), (30, false), (31, false), (32, false), (33, false), (34, false), (35, true), (36, false), (37, false), (38, false), (39, false), (40, false), (41, false), (42, false), (43, false), (44, false), (45, false), (46, false), (47, false), (48, false), (49, false), (50, false), (51, false), (52, false)] (by kernel_rfl) (by kernel_rfl) ?_
            have hv0 := below_drawn W
            generalize { W with drawn := W.drawn + 1 } = V0 at *
            refine mix_take [0, 1] [_, _] rfl rfl ?_
            simp only [List.getElem_toArray, List.getElem_cons_zero, List.getElem_cons_succ]
            repeat (go_big_quiet_step (fail))
            refine wpQuiet_nil ?_
            refine mix_bar rfl (by rfl) ?_
            simp only [List.getElem_toArray, List.getElem_cons_zero, List.getElem_cons_succ]
            go_simp
            refine (KC.out V0 hv0).mono ?_
            rintro e V1 ⟨rfl, hb⟩
            have hv1 := below_call hv0 hb
            refine ⟨regrown_of_below hv1, ?_⟩
            clear hb
            refine mix_take [3, 4, 5, 6, 7, 8, 9, 10, 11, 12] [_, _, _, _, _, _, _, _, _, _] rfl rfl ?_
            simp only [List.getElem_toArray, List.getElem_cons_zero, List.getElem_cons_succ]
            repeat (go_big_quiet_step (fail))
            refine wpQuiet_nil ?_
            refine mix_bar rfl (by rfl) ?_
            simp only [List.getElem_toArray, List.getElem_cons_zero, List.getElem_cons_succ]
            go_simp
            refine (froms_any V1).mono ?_
            rintro e _ ⟨rfl, rfl⟩
            have hgf := heap_alloc_new V1 (.cells fromsBlk 9)
            have hv2 := hv1.alloc hv1.size (.cells fromsBlk 9)
            refine ⟨regrown_of_below hv2, ?_⟩
            generalize V1.alloc (.cells fromsBlk 9) = V2 at *
            refine mix_bar rfl (by rfl) ?_
            simp only [List.getElem_toArray, List.getElem_cons_zero, List.getElem_cons_succ]
            go_simp
            refine ⟨regrown_of_below hv2, ?_⟩
            refine mix_take [15, 16, 17, 18, 19, 20, 21, 22, 23] [_, _, _, _, _, _, _, _, _] rfl rfl ?_
            simp only [List.getElem_toArray, List.getElem_cons_zero, List.getElem_cons_succ]
            repeat (go_big_quiet_step (fail))
            refine wpQuiet_nil ?_
            refine mix_bar rfl (by rfl) ?_
            simp only [List.getElem_toArray, List.getElem_cons_zero, List.getElem_cons_succ]
            go_simp
            have hg := heap_alloc_new V2 (.cells #[.int .i64 r.di, .int .i64 r.me, .int .i64 r.ta] 3)
            have hv3 := hv2.alloc hv2.size (.cells #[.int .i64 r.di, .int .i64 r.me, .int .i64 r.ta] 3)
            refine ⟨regrown_of_below hv3, ?_⟩
            generalize V2.alloc (.cells #[.int .i64 r.di, .int .i64 r.me, .int .i64 r.ta] 3) = V3 at *
            refine mix_bar rfl (by rfl) ?_
            simp only [List.getElem_toArray, List.getElem_cons_zero, List.getElem_cons_succ]
            go_simp
            refine (KF.out V3 hv3 _ hg).mono ?_
            rintro e V4 ⟨rfl, hb⟩
            have hv4 := below_call hv3 hb
            refine ⟨regrown_of_below hv4, ?_⟩
            clear hb
            refine mix_take [26, 27, 28, 29, 30, 31, 32, 33, 34] [_, _, _, _, _, _, _, _, _] rfl rfl ?_
            simp only [List.getElem_toArray, List.getElem_cons_zero, List.getElem_cons_succ]
            repeat (go_big_quiet_step (fail))
            refine wpQuiet_nil ?_
            refine mix_not rfl (by rfl) ?_
            simp only [List.getElem_toArray, List.getElem_cons_zero, List.getElem_cons_succ]
            go_simp
            refine mix_take [36, 37, 38, 39, 40, 41, 42, 43, 44, 45, 46, 47, 48, 49, 50, 51, 52] [_, _, _, _, _, _, _, _, _, _, _, _, _, _, _, _, _] rfl rfl ?_
            simp only [List.getElem_toArray, List.getElem_cons_zero, List.getElem_cons_succ]
            repeat (go_big_quiet_step (fail))
            refine wpQuiet_nil ?_
            refine mix_end ?_
            go_wp2_with fail
            go_meet
            exact ⟨by rw [hok.out]; rfl, hv4⟩
    · obtain ⟨hf0, hf1⟩ := r.hfr
      have d0 : (chk r.a r.m != 0) = true := by simpa using q0
      have KC := Lib.hid (fun V (hv : Below W.heap.size W V) => addrCheck_any r.a r.m V r.ha.1 r.ha.2)
      have hok := Lib.hid (show r.ok = false from rt_ok_no (fun h => q0 h.1))
      try clear q6
      try clear hdc
      try clear hdf
      try clear hnn
      try clear q5
      try clear q4
      have F0 := cell_regrown c0
      have F1 := cell_regrown c1
      have F2 := cell_regrown c2
      have F3 := cell_regrown c3
      have F4 := cell_regrown c4
      have F5 := cell_regrown c5
      have F6 := cell_regrown c6
      have F7 := cell_regrown c7
      have F8 := cell_regrown c8
      refine wp_region_mix [(0, false), (1, false), (2, true), (3, false), (4, false), (5, false), (6, false), (7, false), (8, false), (9, false), (10, false), (11, false), (12, false), (13, true), (14, true), (15, false), (16, false), (17, false), (18, false), (19, false), (20, false), (21, false), (22, false), (23, false), (24, true), (25, true), (26, false), (27, false), (28, false), (29, false), (30, false), (31, false), (32, false), (33, false), (34, false), (35, true), (36, false), (37, false), (38, false), (39, false), (40, false), (41, false), (42, false), (43, false), (44, false), (45, false), (46, false), (47, false), (48, false), (49, false), (50, false), (51, false), (52, false)] (by kernel_rfl) (by kernel_rfl) ?_
      have hv0 := below_drawn W
      generalize { W with drawn := W.drawn + 1 } = V0 at *
      refine mix_take [0, 1] [_, _] rfl rfl ?_
      simp only [List.getElem_toArray, List.getElem_cons_zero, List.getElem_cons_succ]
      repeat (go_big_quiet_step (fail))
      refine wpQuiet_nil ?_
      refine mix_bar rfl (by rfl) ?_
      simp only [List.getElem_toArray, List.getElem_cons_zero, List.getElem_cons_succ]
      go_simp
      refine (KC.out V0 hv0).mono ?_
      rintro e V1 ⟨rfl, hb⟩
      have hv1 := below_call hv0 hb
      refine ⟨regrown_of_below hv1, ?_⟩
      clear hb
      refine mix_take [3, 4, 5, 6, 7, 8, 9, 10, 11, 12] [_, _, _, _, _, _, _, _, _, _] rfl rfl ?_
      simp only [List.getElem_toArray, List.getElem_cons_zero, List.getElem_cons_succ]
      repeat (go_big_quiet_step (fail))
      refine wpQuiet_nil ?_
      refine mix_not rfl (by rfl) ?_
      simp only [List.getElem_toArray, List.getElem_cons_zero, List.getElem_cons_succ]
      go_simp
      refine mix_not rfl (by rfl) ?_
      simp only [List.getElem_toArray, List.getElem_cons_zero, List.getElem_cons_succ]
      go_simp
      refine mix_take [15, 16, 17, 18, 19, 20, 21, 22, 23] [_, _, _, _, _, _, _, _, _] rfl rfl ?_
      simp only [List.getElem_toArray, List.getElem_cons_zero, List.getElem_cons_succ]
      repeat (go_big_quiet_step (fail))
      refine wpQuiet_nil ?_
      refine mix_not rfl (by rfl) ?_
      simp only [List.getElem_toArray, List.getElem_cons_zero, List.getElem_cons_succ]
      go_simp
      refine mix_not rfl (by rfl) ?_
      simp only [List.getElem_toArray, List.getElem_cons_zero, List.getElem_cons_succ]
      go_simp
      refine mix_take [26, 27, 28, 29, 30, 31, 32, 33, 34] [_, _, _, _, _, _, _, _, _] rfl rfl ?_
      simp only [List.getElem_toArray, List.getElem_cons_zero, List.getElem_cons_succ]
      repeat (go_big_quiet_step (fail))
      refine wpQuiet_nil ?_
      refine mix_not rfl (by rfl) ?_
      simp only [List.getElem_toArray, List.getElem_cons_zero, List.getElem_cons_succ]
      go_simp
      refine mix_take [36, 37, 38, 39, 40, 41, 42, 43, 44, 45, 46, 47, 48, 49, 50, 51, 52] [_, _, _, _, _, _, _, _, _, _, _, _, _, _, _, _, _] rfl rfl ?_
      simp only [List.getElem_toArray, List.getElem_cons_zero, List.getElem_cons_succ]
      repeat (go_big_quiet_step (fail))
      refine wpQuiet_nil ?_
      refine mix_end ?_
      go_wp2_with fail
      go_meet
      exact ⟨by rw [hok.out]; rfl, hv1⟩
  case rest =>
    obtain ⟨rfl, hbR⟩ := hcut
    rename World => wa
    have sz0 : w.heap.size < W.heap.size := lt_of_block hk0
    have hk : wa.heap[w.heap.size]? = some (rtObj r) := (hbR.block _ sz0).trans hk0
    have hbw := hb0.trans (hbR.mono hb0.size)
    cases hok : r.ok with
    | false =>
      have ht := Lib.hid (rt_told_no hok)
      clear hok hk0 c0 c1 c2 c3 c4 c5 c6 c7 c8
      go_wp2
      go_ret2
      exact ⟨by rw [ht.out.1, ht.out.2]; rfl, hbw⟩
    | true =>
      have ht := Lib.hid (rt_told_yes hok)
      obtain ⟨k0, k1, k2, ⟨k3, k4, k5⟩, k6, k7⟩ := rt_ok_iff.1 hok
      have kc := chk_ok k0
      have HOKL := Lib.hid (rt_text_len hok)
      have l3 := fine_iff.1 k3
      have l4 := fine_iff.1 k4
      have l5 := fine_iff.1 k5
      obtain ⟨kf, hkf⟩ := Int.eq_ofNat_of_zero_le (show 0 ≤ r.fr by omega)
      have hkf8 : kf ≤ 8 := by omega
      have hEc := hE.below hbw
      clear k3 k4 k5 k6 k7
      clear c0 c1 c2 c3 c4 c5 c6 c7 c8 hok
      obtain ⟨c0, c1, c2, c3, c4, c5, c6, c7, c8⟩ := blk9 (t := 39) (show wa.heap[w.heap.size]? = some (.cells #[.int .u32 r.a, .int .i64 r.m, .int .u8 r.fr, .int .i64 r.di, .int .i64 r.me, .int .i64 r.ta, .string ⟨r.nm.toArray⟩, .int .u32 r.ho, .bool r.dc] 39 (0, 0)) from hk)
      have c2' : wa.cell? ⟨w.heap.size, 2, none⟩ = some (.int .u8 (kf : Int)) := by rw [c2, hkf]
      clear c2
      have KP := Lib.hid (fun V (hv : Below wa.heap.size wa V) => prefI_any r.a r.m r.ha r.hm.1 r.hm.2 V (hEc.below hv))
      have KD := Lib.hid (fun V (hv : Below wa.heap.size wa V) => itoaN_any r.di l3.1 (by omega) V (hEc.below hv))
      have KM := Lib.hid (fun V (hv : Below wa.heap.size wa V) => itoaN_any r.me l4.1 (by omega) V (hEc.below hv))
      have KT := Lib.hid (fun V (hv : Below wa.heap.size wa V) => itoaN_any r.ta l5.1 (by omega) V (hEc.below hv))
      have hff := fromsBlk_at hkf8
      have I0 : (0 : Int) ≤ (kf : Int) := by omega
      have I1 : (kf : Int) < 9 := by omega
      generalize hq0 : (⟨(prefT r.a r.m).toArray⟩ : ByteArray) = q0 at *
      have HQ0 := Lib.hid (show q0.data.toList = prefT r.a r.m by rw [← hq0])
      clear hq0
      go_upto_region 3 with fail
      have F0 := cell_regrown c0
      have F1 := cell_regrown c1
      have F2 := cell_regrown c2'
      have F3 := cell_regrown c3
      have F4 := cell_regrown c4
      have F5 := cell_regrown c5
      refine wp_region_mix [(0, false), (1, false), (4, false), (5, false), (8, false), (9, false), (11, false), (12, false), (14, false), (15, false), (2, true), (3, true), (6, false), (7, false), (10, true), (13, true), (16, true), (17, true), (18, false)] (by kernel_rfl) (by kernel_rfl) ?_
      have hv0 := below_drawn wa
      generalize { wa with drawn := wa.drawn + 1 } = V0 at *
      refine mix_take [0, 1, 4, 5, 8, 9, 11, 12, 14, 15] [_, _, _, _, _, _, _, _, _, _] rfl rfl ?_
      simp only [List.getElem_toArray, List.getElem_cons_zero, List.getElem_cons_succ]
      repeat (go_big_quiet_step (fail))
      refine wpQuiet_nil ?_
      refine mix_bar rfl (by rfl) ?_
      simp only [List.getElem_toArray, List.getElem_cons_zero, List.getElem_cons_succ]
      go_simp
      refine (KP.out V0 hv0).mono ?_
      rintro e V1 ⟨rfl, hb⟩
      have hv1 := below_call hv0 hb
      refine ⟨regrown_of_below hv1, ?_⟩
      clear hb
      refine mix_new rfl (by rfl) ?_
      simp only [List.getElem_toArray, List.getElem_cons_zero, List.getElem_cons_succ]
      go_simp
      refine (froms_any V1).mono ?_
      rintro e _ ⟨rfl, rfl⟩
      have hgf := heap_alloc_new V1 (.cells fromsBlk 9)
      have hv2 := hv1.alloc hv1.size (.cells fromsBlk 9)
      refine ⟨hv2, ?_⟩
      generalize V1.alloc (.cells fromsBlk 9) = V2 at *
      have hx2 := Below.refl V2.heap.size V2
      have hcf := (cell_of_row V2 _ kf _ _ _ hgf).trans hff
      have G := cell_regrown hcf
      refine mix_take [6, 7] [_, _] rfl rfl ?_
      simp only [List.getElem_toArray, List.getElem_cons_zero, List.getElem_cons_succ]
      repeat (go_big_quiet_step (fail))
      refine wpQuiet_nil ?_
      refine mix_bar rfl (by rfl) ?_
      simp only [List.getElem_toArray, List.getElem_cons_zero, List.getElem_cons_succ]
      go_simp
      refine (KD.out V2 hv2).mono ?_
      rintro e V3 ⟨rfl, hb⟩
      have hv3 := below_call hv2 hb
      have hx3 := below_call hx2 hb
      refine ⟨regrown_of_below hx3, ?_⟩
      clear hb
      refine mix_bar rfl (by rfl) ?_
      simp only [List.getElem_toArray, List.getElem_cons_zero, List.getElem_cons_succ]
      go_simp
      refine (KM.out V3 hv3).mono ?_
      rintro e V4 ⟨rfl, hb⟩
      have hv4 := below_call hv3 hb
      have hx4 := below_call hx3 hb
      refine ⟨regrown_of_below hx4, ?_⟩
      clear hb
      refine mix_bar rfl (by rfl) ?_
      simp only [List.getElem_toArray, List.getElem_cons_zero, List.getElem_cons_succ]
      go_simp
      refine (KT.out V4 hv4).mono ?_
      rintro e V5 ⟨rfl, hb⟩
      have hv5 := below_call hv4 hb
      have hx5 := below_call hx4 hb
      refine ⟨regrown_of_below hx5, ?_⟩
      clear hb
      refine mix_bar rfl (by rfl) ?_
      simp only [List.getElem_toArray, List.getElem_cons_zero, List.getElem_cons_succ]
      go_simp
      have hgw := heap_alloc_new V5 (.cells #[.string q0, .string ⟨(fromW kf).toArray⟩, .string ⟨(Lib.decDigits r.di.toNat).toArray⟩, .string ⟨(Lib.decDigits r.me.toNat).toArray⟩, .string ⟨(Lib.decDigits r.ta.toNat).toArray⟩] 9)
      have hv6 := hv5.alloc hv5.size (.cells #[.string q0, .string ⟨(fromW kf).toArray⟩, .string ⟨(Lib.decDigits r.di.toNat).toArray⟩, .string ⟨(Lib.decDigits r.me.toNat).toArray⟩, .string ⟨(Lib.decDigits r.ta.toNat).toArray⟩] 9)
      have hx6 := hx5.alloc hx5.size (.cells #[.string q0, .string ⟨(fromW kf).toArray⟩, .string ⟨(Lib.decDigits r.di.toNat).toArray⟩, .string ⟨(Lib.decDigits r.me.toNat).toArray⟩, .string ⟨(Lib.decDigits r.ta.toNat).toArray⟩] 9)
      refine ⟨regrown_of_below hx6, ?_⟩
      generalize V5.alloc (.cells #[.string q0, .string ⟨(fromW kf).toArray⟩, .string ⟨(Lib.decDigits r.di.toNat).toArray⟩, .string ⟨(Lib.decDigits r.me.toNat).toArray⟩, .string ⟨(Lib.decDigits r.ta.toNat).toArray⟩] 9) = V6 at *
      refine mix_take [18] [_] rfl rfl ?_
      simp only [List.getElem_toArray, List.getElem_cons_zero, List.getElem_cons_succ]
      repeat (go_big_quiet_step (fail))
      refine wpQuiet_nil ?_
      refine mix_end ?_
      have d6 := cell_kept hv6 c6
      have d7 := cell_kept hv6 c7
      have d8 := cell_kept hv6 c8
      have hown := owns_of_block (base := wa.heap.size) (size := 1) (n := 5) (c := 5) (xs := [q0, ⟨(fromW kf).toArray⟩, ⟨(Lib.decDigits r.di.toNat).toArray⟩, ⟨(Lib.decDigits r.me.toNat).toArray⟩, ⟨(Lib.decDigits r.ta.toNat).toArray⟩].map Value.string) hgw (Nat.le_refl _) (by unfold maxLen; omega) rfl rfl rfl hv5.size
      generalize hB5 : ([q0, ⟨(fromW kf).toArray⟩, ⟨(Lib.decDigits r.di.toNat).toArray⟩, ⟨(Lib.decDigits r.me.toNat).toArray⟩, ⟨(Lib.decDigits r.ta.toNat).toArray⟩] : List ByteArray) = B5 at *
      have hl5 : B5.length = 5 := by rw [← hB5]; rfl
      have HB5 := Lib.hid hB5
      have C6 := Lib.hid c6
      have C7 := Lib.hid c7
      have C8 := Lib.hid c8
      clear hB5 c0 c1 c2' c3 c4 c5 c6 c7 c8 hgw hgf hcf hff F0 F1 F2 F3 F4 F5 G KP KD KM KT
      obtain ⟨i0, hi, hz0, hz1, hz2⟩ := info_parts Tryd.infoStr
      generalize (Value.agg #[.int .u32 r.a, .int .i64 r.m, .int .u8 (kf : Int), .int .i64 r.di, .int .i64 r.me, .int .i64 r.ta, .string ⟨r.nm.toArray⟩, .int .u32 r.ho, .bool r.dc] : Value) = vr at *
      go_upto_if 78 with fail
      go_cut [4] (fun sv wx => wx.ownsRow wa.heap.size 9 1 sv (B5 ++ r.hopB).length ((B5 ++ r.hopB).map Value.string) ∧ Below wa.heap.size wa wx)
      case first =>
        by_cases q1 : r.ho = 0
        · have e1 : (r.ho != 0) = false := by simpa using q1
          have hh : r.hopB = [] := by unfold RtV.hopB; rw [if_pos q1]
          have HH := Lib.hid hh
          clear hh q1
          go_wp2_with fail
          go_meet
          rw [HH.out, List.append_nil, hl5]
          exact ⟨hown, hv6⟩
        · have e1 : (r.ho != 0) = true := by simpa using q1
          have hh : r.hopB = [⟨viaW.toArray⟩, textA r.ho.toNat] := by unfold RtV.hopB; rw [if_neg q1]
          have HH := Lib.hid hh
          have hT := Lib.hid (addrTextI_any r.ho r.hho V6 (hEc.below hv6))
          clear hh q1
          generalize textA r.ho.toNat = qh at *
          go_wp2_with fail
          refine hT.out.mono ?_
          rintro e V7 ⟨rfl, hb⟩
          have hv7 := below_call hv6 hb
          have hown7 := owns_kept_none hown (only_of_below hb none)
          have sz7 := hv7.size
          clear hb hown
          go_wp2_with (at_builtin; refine wpList_pushN rfl _ _ 57 rfl 9 i0 _ 1 16 Tryd.underlying57 hi hz0 hz1 hz2 rfl (by decide) (by decide) 2 (by decide) (by decide) [.string ⟨#[118, 105, 97]⟩, .string qh] rfl rfl (by simp) hown7 rfl (str_one (l := [⟨#[118, 105, 97]⟩, qh])) (by omega) sz7 hv7 (Nat.le_refl _) ?_; intro v8 V8 hown8 hv8)
          go_meet
          rw [HH.out, List.length_append, List.map_append, hl5]
          exact ⟨hown8, hv8⟩
      case rest =>
        obtain ⟨hown1, hv7⟩ := hcut
        rename World => wb
        obtain ⟨A1, g1, rfl, _⟩ := owns_form hown1
        have lh : r.hopB.length ≤ 2 := by unfold RtV.hopB; split <;> simp
        have d6 := cell_kept hv7 C6.out
        go_upto_if 87 with fail
        go_cut [4] (fun sv wx => wx.ownsRow wa.heap.size 9 1 sv ((B5 ++ r.hopB) ++ r.nmB).length (((B5 ++ r.hopB) ++ r.nmB).map Value.string) ∧ Below wa.heap.size wa wx)
        case first =>
          by_cases q4 : r.nm = []
          · have d5 : r.nm.isEmpty = true := by simpa using q4
            have d9 : (!r.nm.isEmpty) = false := by rw [d5]; rfl
            have d4 : ((⟨r.nm.toArray⟩ : ByteArray).toList == ([] : List UInt8)) = true := by rw [list_of]; simpa using q4
            have hh : r.nmB = [] := by unfold RtV.nmB; rw [if_pos q4]
            have HH := Lib.hid hh
            clear hh q4
            simp only [d9]
            go_wp2_with fail
            go_meet
            rw [HH.out, List.append_nil]
            exact ⟨hown1, hv7⟩
          · have d5 : r.nm.isEmpty = false := by simpa using q4
            have d9 : (!r.nm.isEmpty) = true := by rw [d5]; rfl
            have d4 : ((⟨r.nm.toArray⟩ : ByteArray).toList == ([] : List UInt8)) = false := by rw [list_of]; simpa using q4
            have hh : r.nmB = [⟨onW.toArray⟩, ⟨r.nm.toArray⟩] := by unfold RtV.nmB; rw [if_neg q4]
            have HH := Lib.hid hh
            have sz7 := hv7.size
            clear hh q4
            simp only [d9]
            go_wp2_with (at_builtin; refine wpList_pushN rfl _ _ 57 rfl 9 i0 _ 1 16 Tryd.underlying57 hi hz0 hz1 hz2 rfl (by decide) (by decide) 2 (by decide) (by decide) [.string ⟨#[111, 110]⟩, .string ⟨r.nm.toArray⟩] rfl rfl (by simp) hown1 rfl (str_one (l := [⟨#[111, 110]⟩, ⟨r.nm.toArray⟩])) (by rw [List.length_append]; omega) sz7 hv7 (Nat.le_refl _) ?_; intro v8 V8 hown8 hv8)
            go_meet
            rw [HH.out, List.length_append, List.map_append]
            exact ⟨hown8, hv8⟩
        case rest =>
          clear d6 hown1
          obtain ⟨hown2, hv8⟩ := hcut
          rename World => wd
          obtain ⟨A2, g2, rfl, _⟩ := owns_form hown2
          have ln : r.nmB.length ≤ 2 := by unfold RtV.nmB; split <;> simp
          have d8 := cell_kept hv8 C8.out
          go_upto_if 94 with fail
          go_cut [4] (fun sv wx => wx.ownsRow wa.heap.size 9 1 sv (((B5 ++ r.hopB) ++ r.nmB) ++ r.dcB).length ((((B5 ++ r.hopB) ++ r.nmB) ++ r.dcB).map Value.string) ∧ Below wa.heap.size wa wx)
          case first =>
            by_cases hdc : r.dc = true
            · have hh : r.dcB = [⟨discW.toArray⟩] := by unfold RtV.dcB; rw [if_pos hdc]
              have HH := Lib.hid hh
              have HD := Lib.hid hdc
              have sz8 := hv8.size
              clear hh
              have hd8 := d8
              rw [HD.out] at hd8
              clear d8
              simp only [hdc]
              go_wp2_with (at_builtin; refine wpList_pushN rfl _ _ 57 rfl 9 i0 _ 1 16 Tryd.underlying57 hi hz0 hz1 hz2 rfl (by decide) (by decide) 1 (by decide) (by decide) [.string ⟨#[100, 105, 115, 99, 97, 114, 100]⟩] rfl rfl (by simp) hown2 rfl (str_one (l := [⟨#[100, 105, 115, 99, 97, 114, 100]⟩])) (by rw [List.length_append, List.length_append]; omega) sz8 hv8 (Nat.le_refl _) ?_; intro v9 V9 hown9 hv9)
              go_meet
              rw [HH.out, List.length_append, List.map_append]
              exact ⟨hown9, hv9⟩
            · have hdf : r.dc = false := by simpa using hdc
              have hh : r.dcB = [] := by unfold RtV.dcB; rw [if_neg hdc]
              have HH := Lib.hid hh
              have HD := Lib.hid hdf
              clear hh hdc
              have hd8 := d8
              rw [HD.out] at hd8
              clear d8
              simp only [hdf]
              go_wp2_with fail
              go_meet
              rw [HH.out, List.append_nil]
              exact ⟨hown2, hv8⟩
          case rest =>
            clear d8 hown2
            obtain ⟨hown3, hv9⟩ := hcut
            rename World => we
            obtain ⟨A3, g3, rfl, _⟩ := owns_form hown3
            have ld : r.dcB.length ≤ 1 := by unfold RtV.dcB; split <;> simp
            have hW := rt_words_B (r := r) HQ0.out hkf
            rw [HB5.out] at hW
            have hlen := HOKL.out
            have hj := lineO_any (((B5 ++ r.hopB) ++ r.nmB) ++ r.dcB) _ _ we hown3 (by simp only [List.length_append]; omega) (by simp only [List.length_append]; omega) (by rw [hW]; show r.text.length ≤ _; omega)
            rw [hW] at hj
            have HJ := Lib.hid (show Calls Tryd.prog 28 #[.slice A3 (((B5 ++ r.hopB) ++ r.nmB) ++ r.dcB).length g3] we fun e V' => e = .returned (.string ⟨r.text.toArray⟩) ∧ Below we.heap.size we V' from hj)
            clear hj hW hlen
            generalize (((B5 ++ r.hopB) ++ r.nmB) ++ r.dcB).length = nn at *
            go_wp2_with fail
            refine HJ.out.mono ?_
            rintro e wf ⟨rfl, hb⟩
            have hbf := below_call (hbw.trans (hv9.mono hbw.size)) hb
            go_wp2
            go_ret2
            exact ⟨by rw [ht.out.1, ht.out.2]; rfl, hbf⟩
end Go.Proofs.YtakkgamhceignaaDoor

/-
  strconv.ParseUint at base 10 and 31 bits: the shelf holds 8, 16, 32 and 64 bits alone. Walked over any program that lays the shelf's text of it.
-/
namespace Go.Proofs.YtakkgamhceignaaDoor
open Go Go.Shelf Go.RowKit
variable {P : Program} {ρ : Ren}

/-- Where the loop over the digits stands: k bytes read, their number is a. -/
def At31 (bs : List UInt8) (k : Nat) (a : Int) : Prop :=
  ∃ m : Nat, a = m ∧ m ≤ 2147483647 ∧ Lib.parseUintM 2147483647 0 bs = Lib.parseUintM 2147483647 m (bs.drop k)
theorem at31_start (bs : List UInt8) : At31 bs 0 0 := ⟨0, rfl, by omega, rfl⟩
theorem At31.le {bs : List UInt8} {k : Nat} {a : Int} (h : At31 bs k a) : 0 ≤ a ∧ a ≤ 2147483647 := by
  obtain ⟨m, h1, h2, _⟩ := h; omega
theorem At31.next {bs : List UInt8} {k : Nat} {a : Int} {c : UInt8} (h : At31 bs k a) (hc : bs[k]? = some c) (h0 : 48 ≤ c.toNat) (h1 : c.toNat ≤ 57) (hle : a * 10 + ((c.toNat : Int) - 48) ≤ 2147483647) : At31 bs (k + 1) (a * 10 + ((c.toNat : Int) - 48)) := by
  obtain ⟨m, rfl, h2, h3⟩ := h
  obtain ⟨hk, hg⟩ := List.getElem?_eq_some_iff.1 hc
  refine ⟨m * 10 + (c.toNat - 48), by omega, by omega, ?_⟩
  rw [h3, List.drop_eq_getElem_cons hk, hg, Lib.parseUintM, if_pos ⟨h0, h1⟩, if_neg (by omega), if_neg (by omega)]
theorem At31.over {bs : List UInt8} {k : Nat} {a : Int} {c : UInt8} (h : At31 bs k a) (hc : bs[k]? = some c) (h0 : 48 ≤ c.toNat) (h1 : c.toNat ≤ 57) (hle : 2147483647 < a * 10 + ((c.toNat : Int) - 48)) : Lib.parseUintM 2147483647 0 bs = .range := by
  obtain ⟨m, rfl, h2, h3⟩ := h
  obtain ⟨hk, hg⟩ := List.getElem?_eq_some_iff.1 hc
  rw [h3, List.drop_eq_getElem_cons hk, hg, Lib.parseUintM, if_pos ⟨h0, h1⟩, if_neg (by omega), if_pos (by omega)]
theorem At31.odd {bs : List UInt8} {k : Nat} {a : Int} {c : UInt8} (h : At31 bs k a) (hc : bs[k]? = some c) (hd : ¬ (48 ≤ c.toNat ∧ c.toNat ≤ 57)) : Lib.parseUintM 2147483647 0 bs = Lib.NumEnd.syntax := by
  obtain ⟨m, rfl, h2, h3⟩ := h
  obtain ⟨hk, hg⟩ := List.getElem?_eq_some_iff.1 hc
  rw [h3, List.drop_eq_getElem_cons hk, hg, Lib.parseUintM, if_neg hd]
theorem At31.done {bs : List UInt8} {k : Nat} {a : Int} (h : At31 bs k a) (hk : bs.length ≤ k) : ∃ m : Nat, a = m ∧ Lib.parseUintM 2147483647 0 bs = .ok m := by
  obtain ⟨m, h1, h2, h3⟩ := h
  exact ⟨m, h1, by rw [h3, List.drop_eq_nil_of_le hk]; rfl⟩

set_option maxHeartbeats 32000000 in
set_option maxRecDepth 100000 in
/-- The inner function, at a string that is not empty. -/
theorem inner31 (L : LaysPu.n16 P ρ) (t : ByteArray) (hne : t.size ≠ 0) (hmax : t.size ≤ 9223372036854775806) (w : World) :
    Calls P (ρ.f 16) #[.string t, .int .i64 10, .int .i64 31] w fun e w' => e = .returned (Lib.uintTupleM (ρ.t 34) 2147483647 (Lib.parseUintM 2147483647 0 t.data.toList)) ∧ w' = Lib.bytesWorld w (ρ.t 5) t := by
  have mixed := L.mixed
  have t9 := L.t9; have a9 := L.a9; have z9 := L.z9; have v9 := L.v9
  have t3 := L.t3; have a3 := L.a3; have z3 := L.z3; have v3 := L.v3
  have t22 := L.t22; have a22 := L.a22; have z22 := L.z22; have v22 := L.v22
  have t24 := L.t24; have a24 := L.a24; have z24 := L.z24; have v24 := L.v24
  have t4 := L.t4; have a4 := L.a4; have z4 := L.z4; have v4 := L.v4
  have t34 := L.t34; have a34 := L.a34; have z34 := L.z34; have v34 := L.v34
  have t5 := L.t5; have a5 := L.a5; have z5 := L.z5; have v5 := L.v5
  have t36 := L.t36; have a36 := L.a36; have z36 := L.z36; have v36 := L.v36
  have t37 := L.t37; have a37 := L.a37; have z37 := L.z37; have v37 := L.v37
  have t0 := L.t0; have a0 := L.a0; have z0 := L.z0; have v0 := L.v0
  have e19 : ∀ args w, (callFunc (ρ.f 19) args).run P w = .ok (.enter (ρ.f 19) args) w := enters_of L.f19 (by kernel_rfl) rfl
  have hemp : t.toList.isEmpty = false := by
    rw [← decide_eq_emptyBytes]
    exact decide_eq_false (fun h => hne (by rw [h]; rfl))
  have hcv := Lib.run_convert_string_bytes (P := P) w (ρ.t 9) (ρ.t 37) (ρ.t 5) t (u := .string) L.t9 L.t37 L.t5
  have hB : ∀ j c, t.data.toList[j]? = some c → (Lib.bytesWorld w (ρ.t 5) t).cell? ⟨w.heap.size, j, none⟩ = some (.int .u8 (c : UInt8).toNat) := fun j c hj => by
    have h1 := Lib.bytesWorld_cell w (ρ.t 5) t j (by rw [Lib.size_eq]; exact (List.getElem?_eq_some_iff.1 hj).1)
    rw [List.getD_eq_getElem?_getD, hj] at h1
    exact h1
  have hLn : t.data.toList.length = t.size := by rw [Lib.size_eq]
  generalize Lib.bytesWorld w (ρ.t 5) t = W1 at *
  generalize t.data.toList = bs at *
  have hmv : IntKind.u64.wrap (IntKind.u64.wrap 2147483648 - 1) = 2147483647 := by
    rw [IntKind.wrap_u64, IntKind.wrap_u64]
    decide
  go_enter L.f16, BodyPu.n16_ntmps ρ
  go_wp2
  go_loop [12, 13, 101] (fun vu vn vi => ∃ (k : Nat) (a : Int), vu = .bool false ∧ vn = .int .u64 a ∧ vi = .int .i64 k ∧ k ≤ t.size ∧ Hid (At31 bs k a)) (fun _ _ vi => t.size - (intOf vi).toNat)
  case atStart => exact ⟨0, 0, rfl, rfl, rfl, by omega, at31_start bs⟩
  case round =>
    obtain ⟨k, a, rfl, rfl, rfl, hk, hh⟩ := hrel
    obtain ⟨a0, a1⟩ := hh.out.le
    by_cases hkn : k < t.size
    · obtain ⟨c, hget⟩ : ∃ c, bs[k]? = some c := ⟨_, List.getElem?_eq_getElem (by omega)⟩
      have hc := hB k c hget
      have hc256 : c.toNat < 256 := c.toNat_lt
      have HG := Lib.hid hget
      clear hB hget
      by_cases hdig : 48 ≤ c.toNat ∧ c.toNat ≤ 57
      · obtain ⟨hd0, hd1⟩ := hdig
        by_cases iov : 2147483647 < a * 10 + ((c.toNat : Int) - 48)
        · have hF := Lib.hid (hh.out.over HG.out hd0 hd1 iov)
          clear hh
          go_wp2
          go_ret2
          exact ⟨by rw [hF.out]; rfl, rfl⟩
        · have hN := Lib.hid (hh.out.next HG.out hd0 hd1 (by omega))
          have iov2 : a * 10 + ((c.toNat : Int) - 48) ≤ 2147483647 := by omega
          clear hh iov
          go_wp2
          refine ⟨⟨k + 1, a * 10 + ((c.toNat : Int) - 48), rfl, (by first | rfl | (congr 1; omega)), (by first | rfl | (congr 1; omega)), by omega, hN⟩, by simp [intOf]; omega⟩
      · have hF := Lib.hid (hh.out.odd HG.out hdig)
        clear hh
        have hv0 := bits_lo_u8 .or (c.toNat : Int) 32
        have hv1 := bits_hi_u8 .or (c.toNat : Int) 32
        have hu0 := bits_lo_u8 .or 95 32
        have hu1 := bits_hi_u8 .or 95 32
        go_wp2_with (go_at_fn (ρ.f 19); refine (AnyPu.internal_strconv_lower { L with } _ _).mono ?_; rintro e w' ⟨rfl, rfl⟩)
        all_goals go_ret2
        all_goals exact ⟨by rw [hF.out]; rfl, rfl⟩
    · obtain ⟨m, hm, hF⟩ := hh.out.done (by omega)
      have HF := Lib.hid hF
      have hkk : k = t.size := by omega
      subst hkk hm
      clear hh hF
      go_wp2
      go_ret2
      exact ⟨by rw [HF.out]; rfl, rfl⟩

/-- The inner function, at any string. -/
theorem at31 (L : LaysPu.n16 P ρ) (t : ByteArray) (hmax : t.size ≤ 9223372036854775806) (w : World) :
    Calls P (ρ.f 16) #[.string t, .int .i64 10, .int .i64 31] w fun e w' => e = .returned (Lib.uintTupleM (ρ.t 34) 2147483647 (Lib.parseUintB 31 t.data.toList)) ∧ (w' = w ∨ w' = Lib.bytesWorld w (ρ.t 5) t) := by
  by_cases h0 : t.size = 0
  · have ht : t = ⟨#[]⟩ := ByteArray.ext (Array.eq_empty_of_size_eq_zero h0)
    subst ht
    exact (AnyPu.internal_strconv_ParseUint_empty { L with } 10 31 w).mono fun e w' ⟨he, hw⟩ => ⟨he, Or.inl hw⟩
  · have hne : t.data.toList ≠ [] := fun h => h0 (by rw [Lib.size_eq, h]; rfl)
    refine (inner31 L t h0 hmax w).mono fun e w' ⟨he, hw⟩ => ⟨?_, Or.inr hw⟩
    rw [he, Lib.parseUintB, if_neg hne]

set_option maxHeartbeats 4000000 in
set_option maxRecDepth 100000 in
/-- A string that spells a number of 31 bits. -/
theorem parse31_ok (L : LaysPu.n14 P ρ) (s : ByteArray) (hmax : s.size ≤ 9223372036854775806) (u : Nat) (h : Lib.parseUintB 31 s.data.toList = .ok u) (w : World) :
    Calls P (ρ.f 14) #[.string s, .int .i64 10, .int .i64 31] w fun e w' => e = .returned (.tuple #[.int .u64 u, .nilIface]) ∧ Below w.heap.size w w' := by
  have mixed := L.mixed
  have t9 := L.t9; have a9 := L.a9; have z9 := L.z9; have v9 := L.v9
  have t3 := L.t3; have a3 := L.a3; have z3 := L.z3; have v3 := L.v3
  have t22 := L.t22; have a22 := L.a22; have z22 := L.z22; have v22 := L.v22
  have t24 := L.t24; have a24 := L.a24; have z24 := L.z24; have v24 := L.v24
  have t25 := L.t25; have a25 := L.a25; have z25 := L.z25; have v25 := L.v25
  have t4 := L.t4; have a4 := L.a4; have z4 := L.z4; have v4 := L.v4
  have e16 : ∀ args w, (callFunc (ρ.f 16) args).run P w = .ok (.enter (ρ.f 16) args) w := enters_of L.f16 (by kernel_rfl) rfl
  have hI : Calls P (ρ.f 16) #[.string s, .int .i64 10, .int .i64 31] w fun e w' => e = .returned (.tuple #[.int .u64 u, .nilIface]) ∧ Below w.heap.size w w' := by
    refine (at31 { L with } s hmax w).mono fun e w' ⟨he, hw⟩ => ⟨by rw [he, h]; rfl, ?_⟩
    rcases hw with rfl | rfl
    · exact Below.refl _ _
    · exact Lib.bytesWorld_below _ _ _
  clear h
  go_enter L.f14, BodyPu.n14_ntmps ρ
  go_wp2_with (go_at_fn (ρ.f 16); refine hI.mono ?_; rintro e W1 ⟨rfl, hW⟩)
  go_wp2
  go_ret2
  exact ⟨rfl, hW⟩

set_option maxHeartbeats 4000000 in
set_option maxRecDepth 100000 in
/-- Any other string. -/
theorem parse31_no (L : LaysPu.n14 P ρ) (s : ByteArray) (hlim : s.size ≤ 281474976710656) (h : ∀ u, Lib.parseUintB 31 s.data.toList ≠ .ok u) (te0 te1 : TypeId) (pe0 pe1 : Value) (w : World) (hv : w.cell? ⟨(ρ.g 0), 0, none⟩ = some (.iface te0 pe0)) (hr : w.cell? ⟨(ρ.g 1), 0, none⟩ = some (.iface te1 pe1)) :
    Calls P (ρ.f 14) #[.string s, .int .i64 10, .int .i64 31] w fun e w' => (∃ (x : Int) (tq : TypeId) (vq : Value), e = .returned (.tuple #[.int .u64 x, .iface tq vq]) ∧ 0 ≤ x ∧ x < 2147483648) ∧ Below w.heap.size w w' := by
  have mixed := L.mixed
  have t9 := L.t9; have a9 := L.a9; have z9 := L.z9; have v9 := L.v9
  have t3 := L.t3; have a3 := L.a3; have z3 := L.z3; have v3 := L.v3
  have t22 := L.t22; have a22 := L.a22; have z22 := L.z22; have v22 := L.v22
  have t24 := L.t24; have a24 := L.a24; have z24 := L.z24; have v24 := L.v24
  have t25 := L.t25; have a25 := L.a25; have z25 := L.z25; have v25 := L.v25
  have t4 := L.t4; have a4 := L.a4; have z4 := L.z4; have v4 := L.v4
  have e16 : ∀ args w, (callFunc (ρ.f 16) args).run P w = .ok (.enter (ρ.f 16) args) w := enters_of L.f16 (by kernel_rfl) rfl
  have e17 : ∀ args w, (callFunc (ρ.f 17) args).run P w = .ok (.enter (ρ.f 17) args) w := enters_of L.f17 (by kernel_rfl) rfl
  have hG0 : (ρ.g 0) < w.heap.size := Lib.lt_of_cell hv
  have hG1 : (ρ.g 1) < w.heap.size := Lib.lt_of_cell hr
  have hI := at31 { L with } s (by omega) w
  cases hp : Lib.parseUintB 31 s.data.toList with
  | ok u => exact absurd hp (h u)
  | range =>
    rw [hp] at hI
    have hI : Calls P (ρ.f 16) #[.string s, .int .i64 10, .int .i64 31] w fun e w' => e = .returned (.tuple #[.int .u64 2147483647, .iface (ρ.t 34) (.int .i64 1)]) ∧ (w' = w ∨ w' = Lib.bytesWorld w (ρ.t 5) s) := hI
    clear h hp
    go_enter L.f14, BodyPu.n14_ntmps ρ
    go_wp2_with (go_at_fn (ρ.f 16); refine hI.mono ?_)
    rintro e W1 ⟨rfl, hW⟩
    have hb1 : Below w.heap.size w W1 := by
      rcases hW with rfl | rfl
      · exact Below.refl _ _
      · exact Lib.bytesWorld_below _ _ _
    have hv1 : W1.cell? ⟨(ρ.g 1), 0, none⟩ = some (.iface te1 pe1) := (hb1.cell (show (⟨(ρ.g 1), 0, none⟩ : Addr).block < w.heap.size from hG1)).trans hr
    clear hW hv hr
    go_wp2_with (go_at_fn (ρ.f 17); refine (AnyPu.strconv_toError_range { L with } ⟨#[80, 97, 114, 115, 101, 85, 105, 110, 116]⟩ s 10 31 (.iface te1 pe1) _ hlim ?_ (Or.inr ⟨_, _, rfl⟩)).mono ?_)
    · exact hv1
    rintro e W2 ⟨N, rfl, h1, h2, h3⟩
    go_wp2
    go_ret2
    exact ⟨⟨_, _, _, rfl, by omega, by omega⟩, hb1.trans (h3.mono hb1.size)⟩
  | _ =>
    rw [hp] at hI
    have hI : Calls P (ρ.f 16) #[.string s, .int .i64 10, .int .i64 31] w fun e w' => e = .returned (.tuple #[.int .u64 0, .iface (ρ.t 34) (.int .i64 2)]) ∧ (w' = w ∨ w' = Lib.bytesWorld w (ρ.t 5) s) := hI
    clear h hp
    go_enter L.f14, BodyPu.n14_ntmps ρ
    go_wp2_with (go_at_fn (ρ.f 16); refine hI.mono ?_)
    rintro e W1 ⟨rfl, hW⟩
    have hb1 : Below w.heap.size w W1 := by
      rcases hW with rfl | rfl
      · exact Below.refl _ _
      · exact Lib.bytesWorld_below _ _ _
    have hv1 : W1.cell? ⟨(ρ.g 0), 0, none⟩ = some (.iface te0 pe0) := (hb1.cell (show (⟨(ρ.g 0), 0, none⟩ : Addr).block < w.heap.size from hG0)).trans hv
    clear hW hv hr
    go_wp2_with (go_at_fn (ρ.f 17); refine (AnyPu.strconv_toError_syntax { L with } ⟨#[80, 97, 114, 115, 101, 85, 105, 110, 116]⟩ s 10 31 (.iface te0 pe0) _ hlim ?_ (Or.inr ⟨_, _, rfl⟩)).mono ?_)
    · exact hv1
    rintro e W2 ⟨N, rfl, h1, h2, h3⟩
    go_wp2
    go_ret2
    exact ⟨⟨_, _, _, rfl, by omega, by omega⟩, hb1.trans (h3.mono hb1.size)⟩
end Go.Proofs.YtakkgamhceignaaDoor

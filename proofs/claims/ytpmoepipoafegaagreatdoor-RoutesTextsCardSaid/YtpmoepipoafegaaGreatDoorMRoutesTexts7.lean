/-
  Joined texts: Rt2, Pu31, Rt4, RtText2, AdText.
-/
import Derived.Test.YtpmoepipoafegaaGreatDoorMRoutesTexts6
import Derived.Test.YtpmoepipoafegaaGreatDoorMRoutesTexts4
import Derived.Deep.DeepCutAuto
import Derived.Shelf.Pu.ParseUintPublic10
import Derived.Shelf.Pu.Lower
import Derived.Lib.Hide
import Derived.Lib.ConvBytes
import Derived.Shelf.Strings.Search3
/-
  The walk of routes.Text.
-/
namespace Go.Proofs.YtpmoepipoafegaaGreatDoor
open Go Go.RowKit Go.Lib Go.Sort

def RtV.told (r : RtV) : List UInt8 := if r.ok then r.text else []
def RtV.toldE (r : RtV) : Int := if r.ok then 0 else 1
theorem rt_told_yes {r : RtV} (h : r.ok = true) : r.told = r.text ∧ r.toldE = 0 := by unfold RtV.told RtV.toldE; rw [if_pos h, if_pos h]; exact ⟨rfl, rfl⟩
theorem rt_told_no {r : RtV} (h : r.ok = false) : r.told = [] ∧ r.toldE = 1 := by unfold RtV.told RtV.toldE; rw [h]; exact ⟨rfl, rfl⟩
def NameC (l : List UInt8) : Prop := ∀ W : World, Env W → Calls Tryz.prog 18 #[.string ⟨l.toArray⟩] W fun e W' => e = .returned (.bool (nameB l)) ∧ Below W.heap.size W W'

theorem below_alR {W V : World} {o : Obj} (h : Below W.heap.size W V) : Below W.heap.size W (V.alloc o) := h.alloc h.size o
theorem keep9 {W V : World} {g : Nat} {v0 v1 v2 v3 v4 v5 v6 v7 v8 : Value} (h0 : W.cell? ⟨g, 0, none⟩ = some v0) (h1 : W.cell? ⟨g, 1, none⟩ = some v1) (h2 : W.cell? ⟨g, 2, none⟩ = some v2) (h3 : W.cell? ⟨g, 3, none⟩ = some v3) (h4 : W.cell? ⟨g, 4, none⟩ = some v4) (h5 : W.cell? ⟨g, 5, none⟩ = some v5) (h6 : W.cell? ⟨g, 6, none⟩ = some v6) (h7 : W.cell? ⟨g, 7, none⟩ = some v7) (h8 : W.cell? ⟨g, 8, none⟩ = some v8) (h : Below W.heap.size W V) : V.cell? ⟨g, 0, none⟩ = some v0 ∧ V.cell? ⟨g, 1, none⟩ = some v1 ∧ V.cell? ⟨g, 2, none⟩ = some v2 ∧ V.cell? ⟨g, 3, none⟩ = some v3 ∧ V.cell? ⟨g, 4, none⟩ = some v4 ∧ V.cell? ⟨g, 5, none⟩ = some v5 ∧ V.cell? ⟨g, 6, none⟩ = some v6 ∧ V.cell? ⟨g, 7, none⟩ = some v7 ∧ V.cell? ⟨g, 8, none⟩ = some v8 ∧ Below W.heap.size W V := ⟨cell_kept h h0, cell_kept h h1, cell_kept h h2, cell_kept h h3, cell_kept h h4, cell_kept h h5, cell_kept h h6, cell_kept h h7, cell_kept h h8, h⟩
theorem fromsBlk_at {k : Nat} (h : k ≤ 8) : fromsBlk[k]? = some (.string ⟨(fromW (k : Int)).toArray⟩) := by
  match k, h with
  | 0, _ => rfl
  | 1, _ => rfl
  | 2, _ => rfl
  | 3, _ => rfl
  | 4, _ => rfl
  | 5, _ => rfl
  | 6, _ => rfl
  | 7, _ => rfl
  | 8, _ => rfl
  | n + 9, h => omega
theorem wpList_pushN {P : Program} {ops : Array Oper} {rest : List Oper} {o : Oper} {a : Act} {Q : Exit → Act → World → Prop} (hgd : o.guard = none) (s x : Operand) (t : TypeId)
    (ho : o.op = .call { callee := .builtin .append, args := #[s, x], argTypes := #[t, t] })
    (e : TypeId) (i : TypeInfo) (z : Value) (size bytes : Nat) (ht : P.underlying t = some (.slice e)) (hi : P.info? e = some i) (hz : i.zero = some z)
    (hsize : i.size = size) (hby : i.bytes = bytes) (hzs : z.cells.size = size) (hsz : 0 < size) (hb64 : bytes ≤ 64)
    {w0 : World} {base n : Nat} {v : Value} {xs : List Value} (m : Nat) (hm : m ≤ 8) (hm0 : 0 < m) (es : List Value) (hs : a.eval s = v) {g0 : Nat} (hx : a.eval x = .slice (some ⟨g0, 0, none⟩) m m) (hg0 : g0 = w0.heap.size)
    (hown : w0.ownsRow base e size v n xs) (hes : es.length = m * size) (h1 : ∀ u ∈ es, u.oneCell' = true) (hn : n ≤ 1099511627776) (hbase : base ≤ w0.heap.size)
    {B : Nat} {a0 : World} (hb : Below B a0 w0) (hB : B ≤ base)
    (h : ∀ v' w', w'.ownsRow base e size v' (n + m) (xs ++ es) → Below B a0 w' → wpList P ops Q rest (a.put o.dst v') w') : wpList P ops Q (o :: rest) a (w0.alloc (.cells es.toArray e)) := by
  subst hg0
  refine wpList_append_own _ hgd s x t ho base e i z size bytes ht hi hz hsize hby hzs hsz v n xs hs (hown.alloc _) ⟨w0.heap.size, 0, none⟩ m m es hx hes (cells_new w0 es e) h1 (by unfold maxLen; omega) ?_ (by simp; omega) ?_
  · calc (n + m) * bytes ≤ (1099511627776 + 8) * 64 := Nat.mul_le_mul (by omega) hb64
      _ ≤ 140737488355328 := by decide
  · intro v' w' h2 h3 _
    exact h v' w' h2 (below_row (hb.alloc (by omega) _) (hown.alloc _) h3 (by simp; omega) hB)
theorem addrTextI_any (a : Int) (ha : 0 ≤ a ∧ a < 4294967296) (w : World) (hE : Env w) :
    Calls Tryz.prog 21 #[.int .u32 a] w fun e w' => e = .returned (.string (textA a.toNat)) ∧ Below w.heap.size w w' := by
  obtain ⟨k, rfl⟩ := Int.eq_ofNat_of_zero_le ha.1
  exact addrText_any k (by omega) w hE
def RtV.hopB (r : RtV) : List ByteArray := if r.ho = 0 then [] else [⟨viaW.toArray⟩, textA r.ho.toNat]
def RtV.nmB (r : RtV) : List ByteArray := if r.nm = [] then [] else [⟨onW.toArray⟩, ⟨r.nm.toArray⟩]
def RtV.dcB (r : RtV) : List ByteArray := if r.dc = true then [⟨discW.toArray⟩] else []
theorem str_one {l : List ByteArray} : ∀ u ∈ l.map Value.string, u.oneCell' = true := by
  intro u hu
  obtain ⟨x, _, rfl⟩ := List.mem_map.1 hu
  rfl
theorem joinB32_len : ∀ (L : List (List UInt8)), (joinB32 L).length ≤ (L.map List.length).sum + L.length
  | [] => by simp [joinB32]
  | [x] => by simp [joinB32]
  | x :: y :: r => by
    have h := joinB32_len (y :: r)
    simp only [joinB32, List.length_append, List.length_cons, List.map_cons, List.sum_cons] at *
    omega
theorem fromW_len {f : Int} (h1 : 1 ≤ f) (h2 : f ≤ 8) : (fromW f).length ≤ 9 := by
  rcases from_cases h1 h2 with rfl | rfl | rfl | rfl | rfl | rfl | rfl | rfl <;> decide
theorem name_len {l : List UInt8} (h : nameB l = true) : l.length ≤ 32 := by
  match l, h with
  | c :: r, h =>
    simp only [nameB, Bool.and_eq_true, decide_eq_true_eq] at h
    exact h.1.1
theorem rt_text_len {r : RtV} (h : r.ok = true) : r.text.length ≤ 300 := by
  obtain ⟨h1, h2, h3, h4, h5, h6, h7, h8⟩ := rt_ok h
  have kc := chk_ok h1
  have a0 := prefT_len (a := r.a) kc.1 kc.2.1
  have a1 := fromW_len h2 h3
  have a2 := dec32 (n := r.di.toNat) (by omega)
  have a3 := dec32 (n := r.me.toNat) (by omega)
  have a4 := dec32 (n := r.ta.toNat) (by omega)
  have b1 : (r.hopW.map List.length).sum ≤ 18 ∧ r.hopW.length ≤ 2 := by
    unfold RtV.hopW
    split
    · simp
    · have e : (textA r.ho.toNat).data.toList.length = (textA r.ho.toNat).size := Array.length_toList
      have := textA_size r.ho.toNat
      simp [viaW] at *
      omega
  have b2 : (r.nmW.map List.length).sum ≤ 34 ∧ r.nmW.length ≤ 2 := by
    unfold RtV.nmW
    split
    · simp
    · rename_i hne
      rcases h7 with h7 | h7
      · exact absurd h7 hne
      · have := name_len h7
        simp [onW]
        omega
  have b3 : (r.dcW.map List.length).sum ≤ 7 ∧ r.dcW.length ≤ 1 := by
    unfold RtV.dcW
    split <;> simp [discW]
  unfold RtV.text
  rw [← joinC_join32]
  refine Nat.le_trans (joinB32_len _) ?_
  simp only [RtV.words, List.map_append, List.sum_append, List.length_append, List.map_cons, List.map_nil, List.sum_cons, List.sum_nil, List.length_cons, List.length_nil]
  omega
theorem rt_words_B {r : RtV} {q0 : ByteArray} {k : Nat} (h : q0.data.toList = prefT r.a r.m) (hk : r.fr = (k : Int)) : ((([q0, ⟨(fromW k).toArray⟩, ⟨(Lib.decDigits r.di.toNat).toArray⟩, ⟨(Lib.decDigits r.me.toNat).toArray⟩, ⟨(Lib.decDigits r.ta.toNat).toArray⟩] ++ r.hopB) ++ r.nmB) ++ r.dcB).map (·.data.toList) = r.words := by
  unfold RtV.words RtV.hopB RtV.nmB RtV.dcB RtV.hopW RtV.nmW RtV.dcW
  rw [hk]
  by_cases h0 : r.ho = 0 <;> by_cases hn : r.nm = [] <;> cases hd : r.dc <;> simp [h0, hn, h]
/-- Words in a row of the caller's, joined by blanks. -/
theorem lineO_any (L : List ByteArray) (v : Value) (B : Nat) (V : World) (h : V.ownsRow B 9 1 v L.length (L.map Value.string)) (hpos : 0 < L.length) (hn : L.length ≤ 1000000) (hj : (Lib.join (L.map (·.data.toList)) [32]).length ≤ 140737488355328) :
    Calls Tryz.prog 22 #[v] V fun e V' => e = .returned (.string ⟨(Lib.join (L.map (·.data.toList)) [32]).toArray⟩) ∧ Below V.heap.size V V' := by
  obtain ⟨A2, c2, rfl, hA2⟩ := owns_form h
  obtain ⟨g, rfl⟩ := hA2 hpos
  have hg := h.lt g rfl
  have hcc2 : L.length ≤ c2 := by
    obtain ⟨_, _, hh, _⟩ := owns_block h
    exact hh
  have hJ := Lib.hid (Tryz.strings_Join g 0 c2 L ⟨#[32]⟩ V (fun j x hj => by
    have hc := h.cells (g := g) rfl j (.string x) (by rw [List.getElem?_map, hj]; rfl)
    have e : (⟨g, 0, none⟩ : Addr).add j = ⟨g, 0 + j, none⟩ := by simp [Addr.add]; omega
    rw [← e]; exact hc) hg.2 (by omega) (by omega) hj)
  clear h hj hg
  go_enter Tryz.func22, Tryz.ntmps22
  go_wp2_with fail
  refine hJ.out.mono ?_
  rintro e w1 ⟨rfl, hb⟩
  go_wp2
  go_ret
  exact ⟨rfl, hb⟩
def rtObj (r : RtV) : Obj := .cells #[.int .u32 r.a, .int .i64 r.m, .int .u8 r.fr, .int .i64 r.di, .int .i64 r.me, .int .i64 r.ta, .string ⟨r.nm.toArray⟩, .int .u32 r.ho, .bool r.dc] 27
theorem blk9 {w : World} {g : Nat} {v0 v1 v2 v3 v4 v5 v6 v7 v8 : Value} {t : TypeId} (h : w.heap[g]? = some (.cells #[v0, v1, v2, v3, v4, v5, v6, v7, v8] t (0, 0))) : w.cell? ⟨g, 0, none⟩ = some v0 ∧ w.cell? ⟨g, 1, none⟩ = some v1 ∧ w.cell? ⟨g, 2, none⟩ = some v2 ∧ w.cell? ⟨g, 3, none⟩ = some v3 ∧ w.cell? ⟨g, 4, none⟩ = some v4 ∧ w.cell? ⟨g, 5, none⟩ = some v5 ∧ w.cell? ⟨g, 6, none⟩ = some v6 ∧ w.cell? ⟨g, 7, none⟩ = some v7 ∧ w.cell? ⟨g, 8, none⟩ = some v8 :=
  ⟨cell_of_row w g 0 _ t (0, 0) h, cell_of_row w g 1 _ t (0, 0) h, cell_of_row w g 2 _ t (0, 0) h, cell_of_row w g 3 _ t (0, 0) h, cell_of_row w g 4 _ t (0, 0) h, cell_of_row w g 5 _ t (0, 0) h, cell_of_row w g 6 _ t (0, 0) h, cell_of_row w g 7 _ t (0, 0) h, cell_of_row w g 8 _ t (0, 0) h⟩
theorem rt_ok_iff {r : RtV} : r.ok = true ↔ (chk r.a r.m = 0 ∧ 1 ≤ r.fr ∧ r.fr ≤ 8 ∧ (fineB r.di = true ∧ fineB r.me = true ∧ fineB r.ta = true) ∧ (r.nm = [] ∨ nameB r.nm = true) ∧ (r.dc = true → r.ho = 0 ∧ r.nm = [])) := by
  simp only [RtV.ok, Bool.and_eq_true, decide_eq_true_eq, Bool.or_eq_true, Bool.not_eq_true']
  constructor
  · rintro ⟨⟨⟨⟨⟨⟨⟨h1, h2⟩, h3⟩, h4⟩, h5⟩, h6⟩, h7⟩, h8⟩
    refine ⟨h1, h2, h3, ⟨h4, h5, h6⟩, h7, fun hd => ?_⟩
    rcases h8 with h8 | h8
    · rw [hd] at h8; cases h8
    · exact h8
  · rintro ⟨h1, h2, h3, ⟨h4, h5, h6⟩, h7, h8⟩
    refine ⟨⟨⟨⟨⟨⟨⟨h1, h2⟩, h3⟩, h4⟩, h5⟩, h6⟩, h7⟩, ?_⟩
    cases hd : r.dc with
    | false => exact Or.inl rfl
    | true => exact Or.inr (h8 hd)
theorem rt_ok_yes {r : RtV} (h : chk r.a r.m = 0 ∧ 1 ≤ r.fr ∧ r.fr ≤ 8 ∧ (fineB r.di = true ∧ fineB r.me = true ∧ fineB r.ta = true) ∧ (r.nm = [] ∨ nameB r.nm = true) ∧ (r.dc = true → r.ho = 0 ∧ r.nm = [])) : r.ok = true := rt_ok_iff.2 h
theorem rt_ok_no {r : RtV} (h : ¬ (chk r.a r.m = 0 ∧ 1 ≤ r.fr ∧ r.fr ≤ 8 ∧ (fineB r.di = true ∧ fineB r.me = true ∧ fineB r.ta = true) ∧ (r.nm = [] ∨ nameB r.nm = true) ∧ (r.dc = true → r.ho = 0 ∧ r.nm = []))) : r.ok = false := by
  cases e : r.ok with
  | false => rfl
  | true => exact absurd (rt_ok_iff.1 e) h
set_option maxRecDepth 100000 in
set_option maxHeartbeats 40000000 in
theorem rtText_any (r : RtV) (w : World) (hE : Env w) (hN : r.nm ≠ [] → NameC r.nm) :
    Calls Tryz.prog 6 #[.agg #[.int .u32 r.a, .int .i64 r.m, .int .u8 r.fr, .int .i64 r.di, .int .i64 r.me, .int .i64 r.ta, .string ⟨r.nm.toArray⟩, .int .u32 r.ho, .bool r.dc]] w fun e w' => e = .returned (.tuple #[.string ⟨r.told.toArray⟩, .int .i64 r.toldE]) ∧ Below w.heap.size w w' := by
  have hk0 := heap_alloc_new w (rtObj r)
  have hb0 := below1 w (rtObj r)
  have hW : w.alloc (.cells #[.int .u32 r.a, .int .i64 r.m, .int .u8 r.fr, .int .i64 r.di, .int .i64 r.me, .int .i64 r.ta, .string ⟨r.nm.toArray⟩, .int .u32 r.ho, .bool r.dc] 27) = w.alloc (rtObj r) := rfl
  have hE0 := hE.below hb0
  obtain ⟨c0, c1, c2, c3, c4, c5, c6, c7, c8⟩ := blk9 (t := 27) (show (w.alloc (rtObj r)).heap[w.heap.size]? = some (.cells #[.int .u32 r.a, .int .i64 r.m, .int .u8 r.fr, .int .i64 r.di, .int .i64 r.me, .int .i64 r.ta, .string ⟨r.nm.toArray⟩, .int .u32 r.ho, .bool r.dc] 27 (0, 0)) from hk0)
  go_enter Tryz.func6, Tryz.ntmps6
  go_upto_region 1 with fail
  try rw [hW]
  generalize w.alloc (rtObj r) = W at *
  clear hW
  go_cut [57] (fun sc wx => sc = .bool (!r.ok) ∧ Below W.heap.size W wx)
  case first =>
    by_cases q0 : chk r.a r.m = 0
    · by_cases q1 : r.fr < 1
      · obtain ⟨hf0, hf1⟩ := r.hfr
        have d0 : (chk r.a r.m != 0) = false := by simpa using q0
        have d1 : decide (r.fr < 1) = true := by simp; omega
        have KC := Lib.hid (fun V (hv : Below W.heap.size W V) => addrCheck_any r.a r.m V r.ha.1 r.ha.2)
        have hok := Lib.hid (show r.ok = false from rt_ok_no (fun h => by have := h.2.1; omega))
        try clear q6
        try clear hdc
        try clear hdf
        try clear hnn
        try clear q5
        try clear q4
        have F0 := cell_regrown c0
        have F1 := cell_regrown c1
        have F2 := cell_regrown c2
        have F3 := cell_regrown c3
        have F4 := cell_regrown c4
        have F5 := cell_regrown c5
        have F6 := cell_regrown c6
        have F7 := cell_regrown c7
        have F8 := cell_regrown c8
        refine wp_region_mix [(0, false), (1, false), (2, true), (3, false), (4, false), (5, false), (6, false), (7, false), (8, false), (9, false), (10, false), (11, false), (12, false), (13, true), (14, true), (15, false), (16, false), (17, false), (18, false), (19, false), (20, false), (21, false), (22, false), (23, false), (24, true), (25, true), (26, false), (27, false), (28, false), (29, false), (30, false), (31, false), (32, false), (33, false), (34, false), (35, true), (36, false), (37, false), (38, false), (39, false), (40, false), (41, false), (42, false), (43, false), (44, false), (45, false), (46, false), (47, false), (48, false), (49, false), (50, false), (51, false), (52, false)] (by kernel_rfl) (by kernel_rfl) ?_
        have hv0 := below_drawn W
        generalize { W with drawn := W.drawn + 1 } = V0 at *
        refine mix_take [0, 1] [_, _] rfl rfl ?_
        simp only [List.getElem_toArray, List.getElem_cons_zero, List.getElem_cons_succ]
        repeat (go_big_quiet_step (fail))
        refine wpQuiet_nil ?_
        refine mix_bar rfl (by rfl) ?_
        simp only [List.getElem_toArray, List.getElem_cons_zero, List.getElem_cons_succ]
        go_simp
        refine (KC.out V0 hv0).mono ?_
        rintro e V1 ⟨rfl, hb⟩
        have hv1 := below_call hv0 hb
        refine ⟨regrown_of_below hv1, ?_⟩
        clear hb
        refine mix_take [3, 4, 5, 6, 7, 8, 9, 10, 11, 12] [_, _, _, _, _, _, _, _, _, _] rfl rfl ?_
        simp only [List.getElem_toArray, List.getElem_cons_zero, List.getElem_cons_succ]
        repeat (go_big_quiet_step (fail))
        refine wpQuiet_nil ?_
        refine mix_not rfl (by rfl) ?_
        simp only [List.getElem_toArray, List.getElem_cons_zero, List.getElem_cons_succ]
        go_simp
        refine mix_not rfl (by rfl) ?_
        simp only [List.getElem_toArray, List.getElem_cons_zero, List.getElem_cons_succ]
        go_simp
        refine mix_take [15, 16, 17, 18, 19, 20, 21, 22, 23] [_, _, _, _, _, _, _, _, _] rfl rfl ?_
        simp only [List.getElem_toArray, List.getElem_cons_zero, List.getElem_cons_succ]
        repeat (go_big_quiet_step (fail))
        refine wpQuiet_nil ?_
        refine mix_not rfl (by rfl) ?_
        simp only [List.getElem_toArray, List.getElem_cons_zero, List.getElem_cons_succ]
        go_simp
        refine mix_not rfl (by rfl) ?_
        simp only [List.getElem_toArray, List.getElem_cons_zero, List.getElem_cons_succ]
        go_simp
        refine mix_take [26, 27, 28, 29, 30, 31, 32, 33, 34] [_, _, _, _, _, _, _, _, _] rfl rfl ?_
        simp only [List.getElem_toArray, List.getElem_cons_zero, List.getElem_cons_succ]
        repeat (go_big_quiet_step (fail))
        refine wpQuiet_nil ?_
        refine mix_not rfl (by rfl) ?_
        simp only [List.getElem_toArray, List.getElem_cons_zero, List.getElem_cons_succ]
        go_simp
        refine mix_take [36, 37, 38, 39, 40, 41, 42, 43, 44, 45, 46, 47, 48, 49, 50, 51, 52] [_, _, _, _, _, _, _, _, _, _, _, _, _, _, _, _, _] rfl rfl ?_
        simp only [List.getElem_toArray, List.getElem_cons_zero, List.getElem_cons_succ]
        repeat (go_big_quiet_step (fail))
        refine wpQuiet_nil ?_
        refine mix_end ?_
        go_wp2_with fail
        go_meet
        exact ⟨by rw [hok.out]; rfl, hv1⟩
      · by_cases q2 : 9 ≤ r.fr
        · obtain ⟨hf0, hf1⟩ := r.hfr
          have d0 : (chk r.a r.m != 0) = false := by simpa using q0
          have d1 : decide (r.fr < 1) = false := by simp; omega
          have KC := Lib.hid (fun V (hv : Below W.heap.size W V) => addrCheck_any r.a r.m V r.ha.1 r.ha.2)
          have d2 : decide (9 ≤ r.fr) = true := by simp; omega
          have hok := Lib.hid (show r.ok = false from rt_ok_no (fun h => by have := h.2.2.1; omega))
          try clear q6
          try clear hdc
          try clear hdf
          try clear hnn
          try clear q5
          try clear q4
          have F0 := cell_regrown c0
          have F1 := cell_regrown c1
          have F2 := cell_regrown c2
          have F3 := cell_regrown c3
          have F4 := cell_regrown c4
          have F5 := cell_regrown c5
          have F6 := cell_regrown c6
          have F7 := cell_regrown c7
          have F8 := cell_regrown c8
          refine wp_region_mix [(0, false), (1, false), (2, true), (3, false), (4, false), (5, false), (6, false), (7, false), (8, false), (9, false), (10, false), (11, false), (12, false), (13, true), (14, true), (15, false), (16, false), (17, false), (18, false), (19, false), (20, false), (21, false), (22, false), (23, false), (24, true), (25, true), (26, false), (27, false), (28, false), (29, false), (30, false), (31, false), (32, false), (33, false), (34, false), (35, true), (36, false), (37, false), (38, false), (39, false), (40, false), (41, false), (42, false), (43, false), (44, false), (45, false), (46, false), (47, false), (48, false), (49, false), (50, false), (51, false), (52, false)] (by kernel_rfl) (by kernel_rfl) ?_
          have hv0 := below_drawn W
          generalize { W with drawn := W.drawn + 1 } = V0 at *
          refine mix_take [0, 1] [_, _] rfl rfl ?_
          simp only [List.getElem_toArray, List.getElem_cons_zero, List.getElem_cons_succ]
          repeat (go_big_quiet_step (fail))
          refine wpQuiet_nil ?_
          refine mix_bar rfl (by rfl) ?_
          simp only [List.getElem_toArray, List.getElem_cons_zero, List.getElem_cons_succ]
          go_simp
          refine (KC.out V0 hv0).mono ?_
          rintro e V1 ⟨rfl, hb⟩
          have hv1 := below_call hv0 hb
          refine ⟨regrown_of_below hv1, ?_⟩
          clear hb
          refine mix_take [3, 4, 5, 6, 7, 8, 9, 10, 11, 12] [_, _, _, _, _, _, _, _, _, _] rfl rfl ?_
          simp only [List.getElem_toArray, List.getElem_cons_zero, List.getElem_cons_succ]
          repeat (go_big_quiet_step (fail))
          refine wpQuiet_nil ?_
          refine mix_bar rfl (by rfl) ?_
          simp only [List.getElem_toArray, List.getElem_cons_zero, List.getElem_cons_succ]
          go_simp
          refine (froms_any V1).mono ?_
          rintro e _ ⟨rfl, rfl⟩
          have hgf := heap_alloc_new V1 (.cells fromsBlk 9)
          have hv2 := hv1.alloc hv1.size (.cells fromsBlk 9)
          refine ⟨regrown_of_below hv2, ?_⟩
          generalize V1.alloc (.cells fromsBlk 9) = V2 at *
          refine mix_bar rfl (by rfl) ?_
          simp only [List.getElem_toArray, List.getElem_cons_zero, List.getElem_cons_succ]
          go_simp
          refine ⟨regrown_of_below hv2, ?_⟩
          refine mix_take [15, 16, 17, 18, 19, 20, 21, 22, 23] [_, _, _, _, _, _, _, _, _] rfl rfl ?_
          simp only [List.getElem_toArray, List.getElem_cons_zero, List.getElem_cons_succ]
          repeat (go_big_quiet_step (fail))
          refine wpQuiet_nil ?_
          refine mix_not rfl (by rfl) ?_
          simp only [List.getElem_toArray, List.getElem_cons_zero, List.getElem_cons_succ]
          go_simp
          refine mix_not rfl (by rfl) ?_
          simp only [List.getElem_toArray, List.getElem_cons_zero, List.getElem_cons_succ]
          go_simp
          refine mix_take [26, 27, 28, 29, 30, 31, 32, 33, 34] [_, _, _, _, _, _, _, _, _] rfl rfl ?_
          simp only [List.getElem_toArray, List.getElem_cons_zero, List.getElem_cons_succ]
          repeat (go_big_quiet_step (fail))
          refine wpQuiet_nil ?_
          refine mix_not rfl (by rfl) ?_
          simp only [List.getElem_toArray, List.getElem_cons_zero, List.getElem_cons_succ]
          go_simp
          refine mix_take [36, 37, 38, 39, 40, 41, 42, 43, 44, 45, 46, 47, 48, 49, 50, 51, 52] [_, _, _, _, _, _, _, _, _, _, _, _, _, _, _, _, _] rfl rfl ?_
          simp only [List.getElem_toArray, List.getElem_cons_zero, List.getElem_cons_succ]
          repeat (go_big_quiet_step (fail))
          refine wpQuiet_nil ?_
          refine mix_end ?_
          go_wp2_with fail
          go_meet
          exact ⟨by rw [hok.out]; rfl, hv2⟩
        · by_cases q3 : (fineB r.di = true ∧ fineB r.me = true ∧ fineB r.ta = true)
          · by_cases q4 : r.nm = []
            · by_cases hdc : r.dc = true
              · have c8' := c8
                rw [hdc] at c8'
                clear c8
                have c8 := c8'
                clear c8'
                by_cases q6 : r.ho = 0
                · obtain ⟨hf0, hf1⟩ := r.hfr
                  have d0 : (chk r.a r.m != 0) = false := by simpa using q0
                  have d1 : decide (r.fr < 1) = false := by simp; omega
                  have KC := Lib.hid (fun V (hv : Below W.heap.size W V) => addrCheck_any r.a r.m V r.ha.1 r.ha.2)
                  have d2 : decide (9 ≤ r.fr) = false := by simp; omega
                  have hfa : [r.di, r.me, r.ta].all fineB = true := by simpa using q3
                  have KF := Lib.hid (fun V (hv : Below W.heap.size W V) g (hg : V.heap[g]? = some (.cells #[.int .i64 r.di, .int .i64 r.me, .int .i64 r.ta] 3 (0, 0))) => (hfa ▸ fine_any [r.di, r.me, r.ta] _ V (Rd.of_blk (cs := #[.int .i64 r.di, .int .i64 r.me, .int .i64 r.ta]) (t := 3) hg (Nat.le_refl _) rfl) (by simp) : Calls Tryz.prog 17 #[.slice (some ⟨g, 0, none⟩) 3 3] V fun e V' => e = .returned (.bool true) ∧ Below V.heap.size V V'))
                  have d4 : ((⟨r.nm.toArray⟩ : ByteArray).toList == ([] : List UInt8)) = true := by rw [list_of]; simpa using q4
                  have d5 : r.nm.isEmpty = true := by simpa using q4
                  have d6 : (r.ho != 0) = false := by simpa using q6
                  have hok := Lib.hid (show r.ok = true from rt_ok_yes ⟨q0, by omega, by omega, by simpa using q3, Or.inl q4, fun _ => ⟨q6, q4⟩⟩)
                  try clear q6
                  try clear hdc
                  try clear hdf
                  try clear hnn
                  try clear q5
                  try clear q4
                  have F0 := cell_regrown c0
                  have F1 := cell_regrown c1
                  have F2 := cell_regrown c2
                  have F3 := cell_regrown c3
                  have F4 := cell_regrown c4
                  have F5 := cell_regrown c5
                  have F6 := cell_regrown c6
                  have F7 := cell_regrown c7
                  have F8 := cell_regrown c8
                  refine wp_region_mix [(0, false), (1, false), (2, true), (3, false), (4, false), (5, false), (6, false), (7, false), (8, false), (9, false), (10, false), (11, false), (12, false), (13, true), (14, true), (15, false), (16, false), (17, false), (18, false), (19, false), (20, false), (21, false), (22, false), (23, false), (24, true), (25, true), (26, false), (27, false), (28, false), (29, false), (30, false), (31, false), (32, false), (33, false), (34, false), (35, true), (36, false), (37, false), (38, false), (39, false), (40, false), (41, false), (42, false), (43, false), (44, false), (45, false), (46, false), (47, false), (48, false), (49, false), (50, false), (51, false), (52, false)] (by kernel_rfl) (by kernel_rfl) ?_
                  have hv0 := below_drawn W
                  generalize { W with drawn := W.drawn + 1 } = V0 at *
                  refine mix_take [0, 1] [_, _] rfl rfl ?_
                  simp only [List.getElem_toArray, List.getElem_cons_zero, List.getElem_cons_succ]
                  repeat (go_big_quiet_step (fail))
                  refine wpQuiet_nil ?_
                  refine mix_bar rfl (by rfl) ?_
                  simp only [List.getElem_toArray, List.getElem_cons_zero, List.getElem_cons_succ]
                  go_simp
                  refine (KC.out V0 hv0).mono ?_
                  rintro e V1 ⟨rfl, hb⟩
                  have hv1 := below_call hv0 hb
                  refine ⟨regrown_of_below hv1, ?_⟩
                  clear hb
                  refine mix_take [3, 4, 5, 6, 7, 8, 9, 10, 11, 12] [_, _, _, _, _, _, _, _, _, _] rfl rfl ?_
                  simp only [List.getElem_toArray, List.getElem_cons_zero, List.getElem_cons_succ]
                  repeat (go_big_quiet_step (fail))
                  refine wpQuiet_nil ?_
                  refine mix_bar rfl (by rfl) ?_
                  simp only [List.getElem_toArray, List.getElem_cons_zero, List.getElem_cons_succ]
                  go_simp
                  refine (froms_any V1).mono ?_
                  rintro e _ ⟨rfl, rfl⟩
                  have hgf := heap_alloc_new V1 (.cells fromsBlk 9)
                  have hv2 := hv1.alloc hv1.size (.cells fromsBlk 9)
                  refine ⟨regrown_of_below hv2, ?_⟩
                  generalize V1.alloc (.cells fromsBlk 9) = V2 at *
                  refine mix_bar rfl (by rfl) ?_
                  simp only [List.getElem_toArray, List.getElem_cons_zero, List.getElem_cons_succ]
                  go_simp
                  refine ⟨regrown_of_below hv2, ?_⟩
                  refine mix_take [15, 16, 17, 18, 19, 20, 21, 22, 23] [_, _, _, _, _, _, _, _, _] rfl rfl ?_
                  simp only [List.getElem_toArray, List.getElem_cons_zero, List.getElem_cons_succ]
                  repeat (go_big_quiet_step (fail))
                  refine wpQuiet_nil ?_
                  refine mix_bar rfl (by rfl) ?_
                  simp only [List.getElem_toArray, List.getElem_cons_zero, List.getElem_cons_succ]
                  go_simp
                  have hg := heap_alloc_new V2 (.cells #[.int .i64 r.di, .int .i64 r.me, .int .i64 r.ta] 3)
                  have hv3 := hv2.alloc hv2.size (.cells #[.int .i64 r.di, .int .i64 r.me, .int .i64 r.ta] 3)
                  refine ⟨regrown_of_below hv3, ?_⟩
                  generalize V2.alloc (.cells #[.int .i64 r.di, .int .i64 r.me, .int .i64 r.ta] 3) = V3 at *
                  refine mix_bar rfl (by rfl) ?_
                  simp only [List.getElem_toArray, List.getElem_cons_zero, List.getElem_cons_succ]
                  go_simp
                  refine (KF.out V3 hv3 _ hg).mono ?_
                  rintro e V4 ⟨rfl, hb⟩
                  have hv4 := below_call hv3 hb
                  refine ⟨regrown_of_below hv4, ?_⟩
                  clear hb
                  refine mix_take [26, 27, 28, 29, 30, 31, 32, 33, 34] [_, _, _, _, _, _, _, _, _] rfl rfl ?_
                  simp only [List.getElem_toArray, List.getElem_cons_zero, List.getElem_cons_succ]
                  repeat (go_big_quiet_step (fail))
                  refine wpQuiet_nil ?_
                  refine mix_not rfl (by rfl) ?_
                  simp only [List.getElem_toArray, List.getElem_cons_zero, List.getElem_cons_succ]
                  go_simp
                  refine mix_take [36, 37, 38, 39, 40, 41, 42, 43, 44, 45, 46, 47, 48, 49, 50, 51, 52] [_, _, _, _, _, _, _, _, _, _, _, _, _, _, _, _, _] rfl rfl ?_
                  simp only [List.getElem_toArray, List.getElem_cons_zero, List.getElem_cons_succ]
                  repeat (go_big_quiet_step (fail))
                  refine wpQuiet_nil ?_
                  refine mix_end ?_
                  go_wp2_with fail
                  go_meet
                  exact ⟨by rw [hok.out]; rfl, hv4⟩
                · obtain ⟨hf0, hf1⟩ := r.hfr
                  have d0 : (chk r.a r.m != 0) = false := by simpa using q0
                  have d1 : decide (r.fr < 1) = false := by simp; omega
                  have KC := Lib.hid (fun V (hv : Below W.heap.size W V) => addrCheck_any r.a r.m V r.ha.1 r.ha.2)
                  have d2 : decide (9 ≤ r.fr) = false := by simp; omega
                  have hfa : [r.di, r.me, r.ta].all fineB = true := by simpa using q3
                  have KF := Lib.hid (fun V (hv : Below W.heap.size W V) g (hg : V.heap[g]? = some (.cells #[.int .i64 r.di, .int .i64 r.me, .int .i64 r.ta] 3 (0, 0))) => (hfa ▸ fine_any [r.di, r.me, r.ta] _ V (Rd.of_blk (cs := #[.int .i64 r.di, .int .i64 r.me, .int .i64 r.ta]) (t := 3) hg (Nat.le_refl _) rfl) (by simp) : Calls Tryz.prog 17 #[.slice (some ⟨g, 0, none⟩) 3 3] V fun e V' => e = .returned (.bool true) ∧ Below V.heap.size V V'))
                  have d4 : ((⟨r.nm.toArray⟩ : ByteArray).toList == ([] : List UInt8)) = true := by rw [list_of]; simpa using q4
                  have d5 : r.nm.isEmpty = true := by simpa using q4
                  have d6 : (r.ho != 0) = true := by simpa using q6
                  have hok := Lib.hid (show r.ok = false from rt_ok_no (fun h => q6 (h.2.2.2.2.2 hdc).1))
                  try clear q6
                  try clear hdc
                  try clear hdf
                  try clear hnn
                  try clear q5
                  try clear q4
                  have F0 := cell_regrown c0
                  have F1 := cell_regrown c1
                  have F2 := cell_regrown c2
                  have F3 := cell_regrown c3
                  have F4 := cell_regrown c4
                  have F5 := cell_regrown c5
                  have F6 := cell_regrown c6
                  have F7 := cell_regrown c7
                  have F8 := cell_regrown c8
                  refine wp_region_mix [(0, false), (1, false), (2, true), (3, false), (4, false), (5, false), (6, false), (7, false), (8, false), (9, false), (10, false), (11, false), (12, false), (13, true), (14, true), (15, false), (16, false), (17, false), (18, false), (19, false), (20, false), (21, false), (22, false), (23, false), (24, true), (25, true), (26, false), (27, false), (28, false), (29, false), (30, false), (31, false), (32, false), (33, false), (34, false), (35, true), (36, false), (37, false), (38, false), (39, false), (40, false), (41, false), (42, false), (43, false), (44, false), (45, false), (46, false), (47, false), (48, false), (49, false), (50, false), (51, false), (52, false)] (by kernel_rfl) (by kernel_rfl) ?_
                  have hv0 := below_drawn W
                  generalize { W with drawn := W.drawn + 1 } = V0 at *
                  refine mix_take [0, 1] [_, _] rfl rfl ?_
                  simp only [List.getElem_toArray, List.getElem_cons_zero, List.getElem_cons_succ]
                  repeat (go_big_quiet_step (fail))
                  refine wpQuiet_nil ?_
                  refine mix_bar rfl (by rfl) ?_
                  simp only [List.getElem_toArray, List.getElem_cons_zero, List.getElem_cons_succ]
                  go_simp
                  refine (KC.out V0 hv0).mono ?_
                  rintro e V1 ⟨rfl, hb⟩
                  have hv1 := below_call hv0 hb
                  refine ⟨regrown_of_below hv1, ?_⟩
                  clear hb
                  refine mix_take [3, 4, 5, 6, 7, 8, 9, 10, 11, 12] [_, _, _, _, _, _, _, _, _, _] rfl rfl ?_
                  simp only [List.getElem_toArray, List.getElem_cons_zero, List.getElem_cons_succ]
                  repeat (go_big_quiet_step (fail))
                  refine wpQuiet_nil ?_
                  refine mix_bar rfl (by rfl) ?_
                  simp only [List.getElem_toArray, List.getElem_cons_zero, List.getElem_cons_succ]
                  go_simp
                  refine (froms_any V1).mono ?_
                  rintro e _ ⟨rfl, rfl⟩
                  have hgf := heap_alloc_new V1 (.cells fromsBlk 9)
                  have hv2 := hv1.alloc hv1.size (.cells fromsBlk 9)
                  refine ⟨regrown_of_below hv2, ?_⟩
                  generalize V1.alloc (.cells fromsBlk 9) = V2 at *
                  refine mix_bar rfl (by rfl) ?_
                  simp only [List.getElem_toArray, List.getElem_cons_zero, List.getElem_cons_succ]
                  go_simp
                  refine ⟨regrown_of_below hv2, ?_⟩
                  refine mix_take [15, 16, 17, 18, 19, 20, 21, 22, 23] [_, _, _, _, _, _, _, _, _] rfl rfl ?_
                  simp only [List.getElem_toArray, List.getElem_cons_zero, List.getElem_cons_succ]
                  repeat (go_big_quiet_step (fail))
                  refine wpQuiet_nil ?_
                  refine mix_bar rfl (by rfl) ?_
                  simp only [List.getElem_toArray, List.getElem_cons_zero, List.getElem_cons_succ]
                  go_simp
                  have hg := heap_alloc_new V2 (.cells #[.int .i64 r.di, .int .i64 r.me, .int .i64 r.ta] 3)
                  have hv3 := hv2.alloc hv2.size (.cells #[.int .i64 r.di, .int .i64 r.me, .int .i64 r.ta] 3)
                  refine ⟨regrown_of_below hv3, ?_⟩
                  generalize V2.alloc (.cells #[.int .i64 r.di, .int .i64 r.me, .int .i64 r.ta] 3) = V3 at *
                  refine mix_bar rfl (by rfl) ?_
                  simp only [List.getElem_toArray, List.getElem_cons_zero, List.getElem_cons_succ]
                  go_simp
                  refine (KF.out V3 hv3 _ hg).mono ?_
                  rintro e V4 ⟨rfl, hb⟩
                  have hv4 := below_call hv3 hb
                  refine ⟨regrown_of_below hv4, ?_⟩
                  clear hb
                  refine mix_take [26, 27, 28, 29, 30, 31, 32, 33, 34] [_, _, _, _, _, _, _, _, _] rfl rfl ?_
                  simp only [List.getElem_toArray, List.getElem_cons_zero, List.getElem_cons_succ]
                  repeat (go_big_quiet_step (fail))
                  refine wpQuiet_nil ?_
                  refine mix_not rfl (by rfl) ?_
                  simp only [List.getElem_toArray, List.getElem_cons_zero, List.getElem_cons_succ]
                  go_simp
                  refine mix_take [36, 37, 38, 39, 40, 41, 42, 43, 44, 45, 46, 47, 48, 49, 50, 51, 52] [_, _, _, _, _, _, _, _, _, _, _, _, _, _, _, _, _] rfl rfl ?_
                  simp only [List.getElem_toArray, List.getElem_cons_zero, List.getElem_cons_succ]
                  repeat (go_big_quiet_step (fail))
                  refine wpQuiet_nil ?_
                  refine mix_end ?_
                  go_wp2_with fail
                  go_meet
                  exact ⟨by rw [hok.out]; rfl, hv4⟩
              · have hdf : r.dc = false := by simpa using hdc
                rw [hdf] at c8
                obtain ⟨hf0, hf1⟩ := r.hfr
                have d0 : (chk r.a r.m != 0) = false := by simpa using q0
                have d1 : decide (r.fr < 1) = false := by simp; omega
                have KC := Lib.hid (fun V (hv : Below W.heap.size W V) => addrCheck_any r.a r.m V r.ha.1 r.ha.2)
                have d2 : decide (9 ≤ r.fr) = false := by simp; omega
                have hfa : [r.di, r.me, r.ta].all fineB = true := by simpa using q3
                have KF := Lib.hid (fun V (hv : Below W.heap.size W V) g (hg : V.heap[g]? = some (.cells #[.int .i64 r.di, .int .i64 r.me, .int .i64 r.ta] 3 (0, 0))) => (hfa ▸ fine_any [r.di, r.me, r.ta] _ V (Rd.of_blk (cs := #[.int .i64 r.di, .int .i64 r.me, .int .i64 r.ta]) (t := 3) hg (Nat.le_refl _) rfl) (by simp) : Calls Tryz.prog 17 #[.slice (some ⟨g, 0, none⟩) 3 3] V fun e V' => e = .returned (.bool true) ∧ Below V.heap.size V V'))
                have d4 : ((⟨r.nm.toArray⟩ : ByteArray).toList == ([] : List UInt8)) = true := by rw [list_of]; simpa using q4
                have d5 : r.nm.isEmpty = true := by simpa using q4
                have hok := Lib.hid (show r.ok = true from rt_ok_yes ⟨q0, by omega, by omega, by simpa using q3, Or.inl q4, fun h => absurd h hdc⟩)
                try clear q6
                try clear hdc
                try clear hdf
                try clear hnn
                try clear q5
                try clear q4
                have F0 := cell_regrown c0
                have F1 := cell_regrown c1
                have F2 := cell_regrown c2
                have F3 := cell_regrown c3
                have F4 := cell_regrown c4
                have F5 := cell_regrown c5
                have F6 := cell_regrown c6
                have F7 := cell_regrown c7
                have F8 := cell_regrown c8
                refine wp_region_mix [(0, false), (1, false), (2, true), (3, false), (4, false), (5, false), (6, false), (7, false), (8, false), (9, false), (10, false), (11, false), (12, false), (13, true), (14, true), (15, false), (16, false), (17, false), (18, false), (19, false), (20, false), (21, false), (22, false), (23, false), (24, true), (25, true), (26, false), (27, false), (28, false), (29, false), (30, false), (31, false), (32, false), (33, false), (34, false), (35, true), (36, false), (37, false), (38, false), (39, false), (40, false), (41, false), (42, false), (43, false), (44, false), (45, false), (46, false), (47, false), (48, false), (49, false), (50, false), (51, false), (52, false)] (by kernel_rfl) (by kernel_rfl) ?_
                have hv0 := below_drawn W
                generalize { W with drawn := W.drawn + 1 } = V0 at *
                refine mix_take [0, 1] [_, _] rfl rfl ?_
                simp only [List.getElem_toArray, List.getElem_cons_zero, List.getElem_cons_succ]
                repeat (go_big_quiet_step (fail))
                refine wpQuiet_nil ?_
                refine mix_bar rfl (by rfl) ?_
                simp only [List.getElem_toArray, List.getElem_cons_zero, List.getElem_cons_succ]
                go_simp
                refine (KC.out V0 hv0).mono ?_
                rintro e V1 ⟨rfl, hb⟩
                have hv1 := below_call hv0 hb
                refine ⟨regrown_of_below hv1, ?_⟩
                clear hb
                refine mix_take [3, 4, 5, 6, 7, 8, 9, 10, 11, 12] [_, _, _, _, _, _, _, _, _, _] rfl rfl ?_
                simp only [List.getElem_toArray, List.getElem_cons_zero, List.getElem_cons_succ]
                repeat (go_big_quiet_step (fail))
                refine wpQuiet_nil ?_
                refine mix_bar rfl (by rfl) ?_
                simp only [List.getElem_toArray, List.getElem_cons_zero, List.getElem_cons_succ]
                go_simp
                refine (froms_any V1).mono ?_
                rintro e _ ⟨rfl, rfl⟩
                have hgf := heap_alloc_new V1 (.cells fromsBlk 9)
                have hv2 := hv1.alloc hv1.size (.cells fromsBlk 9)
                refine ⟨regrown_of_below hv2, ?_⟩
                generalize V1.alloc (.cells fromsBlk 9) = V2 at *
                refine mix_bar rfl (by rfl) ?_
                simp only [List.getElem_toArray, List.getElem_cons_zero, List.getElem_cons_succ]
                go_simp
                refine ⟨regrown_of_below hv2, ?_⟩
                refine mix_take [15, 16, 17, 18, 19, 20, 21, 22, 23] [_, _, _, _, _, _, _, _, _] rfl rfl ?_
                simp only [List.getElem_toArray, List.getElem_cons_zero, List.getElem_cons_succ]
                repeat (go_big_quiet_step (fail))
                refine wpQuiet_nil ?_
                refine mix_bar rfl (by rfl) ?_
                simp only [List.getElem_toArray, List.getElem_cons_zero, List.getElem_cons_succ]
                go_simp
                have hg := heap_alloc_new V2 (.cells #[.int .i64 r.di, .int .i64 r.me, .int .i64 r.ta] 3)
                have hv3 := hv2.alloc hv2.size (.cells #[.int .i64 r.di, .int .i64 r.me, .int .i64 r.ta] 3)
                refine ⟨regrown_of_below hv3, ?_⟩
                generalize V2.alloc (.cells #[.int .i64 r.di, .int .i64 r.me, .int .i64 r.ta] 3) = V3 at *
                refine mix_bar rfl (by rfl) ?_
                simp only [List.getElem_toArray, List.getElem_cons_zero, List.getElem_cons_succ]
                go_simp
                refine (KF.out V3 hv3 _ hg).mono ?_
                rintro e V4 ⟨rfl, hb⟩
                have hv4 := below_call hv3 hb
                refine ⟨regrown_of_below hv4, ?_⟩
                clear hb
                refine mix_take [26, 27, 28, 29, 30, 31, 32, 33, 34] [_, _, _, _, _, _, _, _, _] rfl rfl ?_
                simp only [List.getElem_toArray, List.getElem_cons_zero, List.getElem_cons_succ]
                repeat (go_big_quiet_step (fail))
                refine wpQuiet_nil ?_
                refine mix_not rfl (by rfl) ?_
                simp only [List.getElem_toArray, List.getElem_cons_zero, List.getElem_cons_succ]
                go_simp
                refine mix_take [36, 37, 38, 39, 40, 41, 42, 43, 44, 45, 46, 47, 48, 49, 50, 51, 52] [_, _, _, _, _, _, _, _, _, _, _, _, _, _, _, _, _] rfl rfl ?_
                simp only [List.getElem_toArray, List.getElem_cons_zero, List.getElem_cons_succ]
                repeat (go_big_quiet_step (fail))
                refine wpQuiet_nil ?_
                refine mix_end ?_
                go_wp2_with fail
                go_meet
                exact ⟨by rw [hok.out]; rfl, hv4⟩
            · cases q5 : nameB r.nm with
              | false =>
                obtain ⟨hf0, hf1⟩ := r.hfr
                have d0 : (chk r.a r.m != 0) = false := by simpa using q0
                have d1 : decide (r.fr < 1) = false := by simp; omega
                have KC := Lib.hid (fun V (hv : Below W.heap.size W V) => addrCheck_any r.a r.m V r.ha.1 r.ha.2)
                have d2 : decide (9 ≤ r.fr) = false := by simp; omega
                have hfa : [r.di, r.me, r.ta].all fineB = true := by simpa using q3
                have KF := Lib.hid (fun V (hv : Below W.heap.size W V) g (hg : V.heap[g]? = some (.cells #[.int .i64 r.di, .int .i64 r.me, .int .i64 r.ta] 3 (0, 0))) => (hfa ▸ fine_any [r.di, r.me, r.ta] _ V (Rd.of_blk (cs := #[.int .i64 r.di, .int .i64 r.me, .int .i64 r.ta]) (t := 3) hg (Nat.le_refl _) rfl) (by simp) : Calls Tryz.prog 17 #[.slice (some ⟨g, 0, none⟩) 3 3] V fun e V' => e = .returned (.bool true) ∧ Below V.heap.size V V'))
                have d4 : ((⟨r.nm.toArray⟩ : ByteArray).toList == ([] : List UInt8)) = false := by rw [list_of]; simpa using q4
                have d5 : r.nm.isEmpty = false := by simpa using q4
                have hnn := hN q4
                have KN := Lib.hid (fun V (hv : Below W.heap.size W V) => (q5 ▸ hnn V (hE0.below hv) : Calls Tryz.prog 18 #[.string ⟨r.nm.toArray⟩] V fun e V' => e = .returned (.bool false) ∧ Below V.heap.size V V'))
                have hok := Lib.hid (show r.ok = false from rt_ok_no (fun h => by rcases h.2.2.2.2.1 with h2 | h2; exact q4 h2; rw [q5] at h2; cases h2))
                try clear q6
                try clear hdc
                try clear hdf
                try clear hnn
                try clear q5
                try clear q4
                have F0 := cell_regrown c0
                have F1 := cell_regrown c1
                have F2 := cell_regrown c2
                have F3 := cell_regrown c3
                have F4 := cell_regrown c4
                have F5 := cell_regrown c5
                have F6 := cell_regrown c6
                have F7 := cell_regrown c7
                have F8 := cell_regrown c8
                refine wp_region_mix [(0, false), (1, false), (2, true), (3, false), (4, false), (5, false), (6, false), (7, false), (8, false), (9, false), (10, false), (11, false), (12, false), (13, true), (14, true), (15, false), (16, false), (17, false), (18, false), (19, false), (20, false), (21, false), (22, false), (23, false), (24, true), (25, true), (26, false), (27, false), (28, false), (29, false), (30, false), (31, false), (32, false), (33, false), (34, false), (35, true), (36, false), (37, false), (38, false), (39, false), (40, false), (41, false), (42, false), (43, false), (44, false), (45, false), (46, false), (47, false), (48, false), (49, false), (50, false), (51, false), (52, false)] (by kernel_rfl) (by kernel_rfl) ?_
                have hv0 := below_drawn W
                generalize { W with drawn := W.drawn + 1 } = V0 at *
                refine mix_take [0, 1] [_, _] rfl rfl ?_
                simp only [List.getElem_toArray, List.getElem_cons_zero, List.getElem_cons_succ]
                repeat (go_big_quiet_step (fail))
                refine wpQuiet_nil ?_
                refine mix_bar rfl (by rfl) ?_
                simp only [List.getElem_toArray, List.getElem_cons_zero, List.getElem_cons_succ]
                go_simp
                refine (KC.out V0 hv0).mono ?_
                rintro e V1 ⟨rfl, hb⟩
                have hv1 := below_call hv0 hb
                refine ⟨regrown_of_below hv1, ?_⟩
                clear hb
                refine mix_take [3, 4, 5, 6, 7, 8, 9, 10, 11, 12] [_, _, _, _, _, _, _, _, _, _] rfl rfl ?_
                simp only [List.getElem_toArray, List.getElem_cons_zero, List.getElem_cons_succ]
                repeat (go_big_quiet_step (fail))
                refine wpQuiet_nil ?_
                refine mix_bar rfl (by rfl) ?_
                simp only [List.getElem_toArray, List.getElem_cons_zero, List.getElem_cons_succ]
                go_simp
                refine (froms_any V1).mono ?_
                rintro e _ ⟨rfl, rfl⟩
                have hgf := heap_alloc_new V1 (.cells fromsBlk 9)
                have hv2 := hv1.alloc hv1.size (.cells fromsBlk 9)
                refine ⟨regrown_of_below hv2, ?_⟩
                generalize V1.alloc (.cells fromsBlk 9) = V2 at *
                refine mix_bar rfl (by rfl) ?_
                simp only [List.getElem_toArray, List.getElem_cons_zero, List.getElem_cons_succ]
                go_simp
                refine ⟨regrown_of_below hv2, ?_⟩
                refine mix_take [15, 16, 17, 18, 19, 20, 21, 22, 23] [_, _, _, _, _, _, _, _, _] rfl rfl ?_
                simp only [List.getElem_toArray, List.getElem_cons_zero, List.getElem_cons_succ]
                repeat (go_big_quiet_step (fail))
                refine wpQuiet_nil ?_
                refine mix_bar rfl (by rfl) ?_
                simp only [List.getElem_toArray, List.getElem_cons_zero, List.getElem_cons_succ]
                go_simp
                have hg := heap_alloc_new V2 (.cells #[.int .i64 r.di, .int .i64 r.me, .int .i64 r.ta] 3)
                have hv3 := hv2.alloc hv2.size (.cells #[.int .i64 r.di, .int .i64 r.me, .int .i64 r.ta] 3)
                refine ⟨regrown_of_below hv3, ?_⟩
                generalize V2.alloc (.cells #[.int .i64 r.di, .int .i64 r.me, .int .i64 r.ta] 3) = V3 at *
                refine mix_bar rfl (by rfl) ?_
                simp only [List.getElem_toArray, List.getElem_cons_zero, List.getElem_cons_succ]
                go_simp
                refine (KF.out V3 hv3 _ hg).mono ?_
                rintro e V4 ⟨rfl, hb⟩
                have hv4 := below_call hv3 hb
                refine ⟨regrown_of_below hv4, ?_⟩
                clear hb
                refine mix_take [26, 27, 28, 29, 30, 31, 32, 33, 34] [_, _, _, _, _, _, _, _, _] rfl rfl ?_
                simp only [List.getElem_toArray, List.getElem_cons_zero, List.getElem_cons_succ]
                repeat (go_big_quiet_step (fail))
                refine wpQuiet_nil ?_
                refine mix_bar rfl (by rfl) ?_
                simp only [List.getElem_toArray, List.getElem_cons_zero, List.getElem_cons_succ]
                go_simp
                refine (KN.out V4 hv4).mono ?_
                rintro e V5 ⟨rfl, hb⟩
                have hv5 := below_call hv4 hb
                refine ⟨regrown_of_below hv5, ?_⟩
                clear hb
                refine mix_take [36, 37, 38, 39, 40, 41, 42, 43, 44, 45, 46, 47, 48, 49, 50, 51, 52] [_, _, _, _, _, _, _, _, _, _, _, _, _, _, _, _, _] rfl rfl ?_
                simp only [List.getElem_toArray, List.getElem_cons_zero, List.getElem_cons_succ]
                repeat (go_big_quiet_step (fail))
                refine wpQuiet_nil ?_
                refine mix_end ?_
                go_wp2_with fail
                go_meet
                exact ⟨by rw [hok.out]; rfl, hv5⟩
              | true =>
                by_cases hdc : r.dc = true
                · have c8' := c8
                  rw [hdc] at c8'
                  clear c8
                  have c8 := c8'
                  clear c8'
                  by_cases q6 : r.ho = 0
                  · obtain ⟨hf0, hf1⟩ := r.hfr
                    have d0 : (chk r.a r.m != 0) = false := by simpa using q0
                    have d1 : decide (r.fr < 1) = false := by simp; omega
                    have KC := Lib.hid (fun V (hv : Below W.heap.size W V) => addrCheck_any r.a r.m V r.ha.1 r.ha.2)
                    have d2 : decide (9 ≤ r.fr) = false := by simp; omega
                    have hfa : [r.di, r.me, r.ta].all fineB = true := by simpa using q3
                    have KF := Lib.hid (fun V (hv : Below W.heap.size W V) g (hg : V.heap[g]? = some (.cells #[.int .i64 r.di, .int .i64 r.me, .int .i64 r.ta] 3 (0, 0))) => (hfa ▸ fine_any [r.di, r.me, r.ta] _ V (Rd.of_blk (cs := #[.int .i64 r.di, .int .i64 r.me, .int .i64 r.ta]) (t := 3) hg (Nat.le_refl _) rfl) (by simp) : Calls Tryz.prog 17 #[.slice (some ⟨g, 0, none⟩) 3 3] V fun e V' => e = .returned (.bool true) ∧ Below V.heap.size V V'))
                    have d4 : ((⟨r.nm.toArray⟩ : ByteArray).toList == ([] : List UInt8)) = false := by rw [list_of]; simpa using q4
                    have d5 : r.nm.isEmpty = false := by simpa using q4
                    have hnn := hN q4
                    have KN := Lib.hid (fun V (hv : Below W.heap.size W V) => (q5 ▸ hnn V (hE0.below hv) : Calls Tryz.prog 18 #[.string ⟨r.nm.toArray⟩] V fun e V' => e = .returned (.bool true) ∧ Below V.heap.size V V'))
                    have d6 : (r.ho != 0) = false := by simpa using q6
                    have hok := Lib.hid (show r.ok = false from rt_ok_no (fun h => q4 (h.2.2.2.2.2 hdc).2))
                    try clear q6
                    try clear hdc
                    try clear hdf
                    try clear hnn
                    try clear q5
                    try clear q4
                    have F0 := cell_regrown c0
                    have F1 := cell_regrown c1
                    have F2 := cell_regrown c2
                    have F3 := cell_regrown c3
                    have F4 := cell_regrown c4
                    have F5 := cell_regrown c5
                    have F6 := cell_regrown c6
                    have F7 := cell_regrown c7
                    have F8 := cell_regrown c8
                    refine wp_region_mix [(0, false), (1, false), (2, true), (3, false), (4, false), (5, false), (6, false), (7, false), (8, false), (9, false), (10, false), (11, false), (12, false), (13, true), (14, true), (15, false), (16, false), (17, false), (18, false), (19, false), (20, false), (21, false), (22, false), (23, false), (24, true), (25, true), (26, false), (27, false), (28, false), (29, false), (30, false), (31, false), (32, false), (33, false), (34, false), (35, true), (36, false), (37, false), (38, false), (39, false), (40, false), (41, false), (42, false), (43, false), (44, false), (45, false), (46, false), (47, false), (48, false), (49, false), (50, false), (51, false), (52, false)] (by kernel_rfl) (by kernel_rfl) ?_
                    have hv0 := below_drawn W
                    generalize { W with drawn := W.drawn + 1 } = V0 at *
                    refine mix_take [0, 1] [_, _] rfl rfl ?_
                    simp only [List.getElem_toArray, List.getElem_cons_zero, List.getElem_cons_succ]
                    repeat (go_big_quiet_step (fail))
                    refine wpQuiet_nil ?_
                    refine mix_bar rfl (by rfl) ?_
                    simp only [List.getElem_toArray, List.getElem_cons_zero, List.getElem_cons_succ]
                    go_simp
                    refine (KC.out V0 hv0).mono ?_
                    rintro e V1 ⟨rfl, hb⟩
                    have hv1 := below_call hv0 hb
                    refine ⟨regrown_of_below hv1, ?_⟩
                    clear hb
                    refine mix_take [3, 4, 5, 6, 7, 8, 9, 10, 11, 12] [_, _, _, _, _, _, _, _, _, _] rfl rfl ?_
                    simp only [List.getElem_toArray, List.getElem_cons_zero, List.getElem_cons_succ]
                    repeat (go_big_quiet_step (fail))
                    refine wpQuiet_nil ?_
                    refine mix_bar rfl (by rfl) ?_
                    simp only [List.getElem_toArray, List.getElem_cons_zero, List.getElem_cons_succ]
                    go_simp
                    refine (froms_any V1).mono ?_
                    rintro e _ ⟨rfl, rfl⟩
                    have hgf := heap_alloc_new V1 (.cells fromsBlk 9)
                    have hv2 := hv1.alloc hv1.size (.cells fromsBlk 9)
                    refine ⟨regrown_of_below hv2, ?_⟩
                    generalize V1.alloc (.cells fromsBlk 9) = V2 at *
                    refine mix_bar rfl (by rfl) ?_
                    simp only [List.getElem_toArray, List.getElem_cons_zero, List.getElem_cons_succ]
                    go_simp
                    refine ⟨regrown_of_below hv2, ?_⟩
                    refine mix_take [15, 16, 17, 18, 19, 20, 21, 22, 23] [_, _, _, _, _, _, _, _, _] rfl rfl ?_
                    simp only [List.getElem_toArray, List.getElem_cons_zero, List.getElem_cons_succ]
                    repeat (go_big_quiet_step (fail))
                    refine wpQuiet_nil ?_
                    refine mix_bar rfl (by rfl) ?_
                    simp only [List.getElem_toArray, List.getElem_cons_zero, List.getElem_cons_succ]
                    go_simp
                    have hg := heap_alloc_new V2 (.cells #[.int .i64 r.di, .int .i64 r.me, .int .i64 r.ta] 3)
                    have hv3 := hv2.alloc hv2.size (.cells #[.int .i64 r.di, .int .i64 r.me, .int .i64 r.ta] 3)
                    refine ⟨regrown_of_below hv3, ?_⟩
                    generalize V2.alloc (.cells #[.int .i64 r.di, .int .i64 r.me, .int .i64 r.ta] 3) = V3 at *
                    refine mix_bar rfl (by rfl) ?_
                    simp only [List.getElem_toArray, List.getElem_cons_zero, List.getElem_cons_succ]
                    go_simp
                    refine (KF.out V3 hv3 _ hg).mono ?_
                    rintro e V4 ⟨rfl, hb⟩
                    have hv4 := below_call hv3 hb
                    refine ⟨regrown_of_below hv4, ?_⟩
                    clear hb
                    refine mix_take [26, 27, 28, 29, 30, 31, 32, 33, 34] [_, _, _, _, _, _, _, _, _] rfl rfl ?_
                    simp only [List.getElem_toArray, List.getElem_cons_zero, List.getElem_cons_succ]
                    repeat (go_big_quiet_step (fail))
                    refine wpQuiet_nil ?_
                    refine mix_bar rfl (by rfl) ?_
                    simp only [List.getElem_toArray, List.getElem_cons_zero, List.getElem_cons_succ]
                    go_simp
                    refine (KN.out V4 hv4).mono ?_
                    rintro e V5 ⟨rfl, hb⟩
                    have hv5 := below_call hv4 hb
                    refine ⟨regrown_of_below hv5, ?_⟩
                    clear hb
                    refine mix_take [36, 37, 38, 39, 40, 41, 42, 43, 44, 45, 46, 47, 48, 49, 50, 51, 52] [_, _, _, _, _, _, _, _, _, _, _, _, _, _, _, _, _] rfl rfl ?_
                    simp only [List.getElem_toArray, List.getElem_cons_zero, List.getElem_cons_succ]
                    repeat (go_big_quiet_step (fail))
                    refine wpQuiet_nil ?_
                    refine mix_end ?_
                    go_wp2_with fail
                    go_meet
                    exact ⟨by rw [hok.out]; rfl, hv5⟩
                  · obtain ⟨hf0, hf1⟩ := r.hfr
                    have d0 : (chk r.a r.m != 0) = false := by simpa using q0
                    have d1 : decide (r.fr < 1) = false := by simp; omega
                    have KC := Lib.hid (fun V (hv : Below W.heap.size W V) => addrCheck_any r.a r.m V r.ha.1 r.ha.2)
                    have d2 : decide (9 ≤ r.fr) = false := by simp; omega
                    have hfa : [r.di, r.me, r.ta].all fineB = true := by simpa using q3
                    have KF := Lib.hid (fun V (hv : Below W.heap.size W V) g (hg : V.heap[g]? = some (.cells #[.int .i64 r.di, .int .i64 r.me, .int .i64 r.ta] 3 (0, 0))) => (hfa ▸ fine_any [r.di, r.me, r.ta] _ V (Rd.of_blk (cs := #[.int .i64 r.di, .int .i64 r.me, .int .i64 r.ta]) (t := 3) hg (Nat.le_refl _) rfl) (by simp) : Calls Tryz.prog 17 #[.slice (some ⟨g, 0, none⟩) 3 3] V fun e V' => e = .returned (.bool true) ∧ Below V.heap.size V V'))
                    have d4 : ((⟨r.nm.toArray⟩ : ByteArray).toList == ([] : List UInt8)) = false := by rw [list_of]; simpa using q4
                    have d5 : r.nm.isEmpty = false := by simpa using q4
                    have hnn := hN q4
                    have KN := Lib.hid (fun V (hv : Below W.heap.size W V) => (q5 ▸ hnn V (hE0.below hv) : Calls Tryz.prog 18 #[.string ⟨r.nm.toArray⟩] V fun e V' => e = .returned (.bool true) ∧ Below V.heap.size V V'))
                    have d6 : (r.ho != 0) = true := by simpa using q6
                    have hok := Lib.hid (show r.ok = false from rt_ok_no (fun h => q6 (h.2.2.2.2.2 hdc).1))
                    try clear q6
                    try clear hdc
                    try clear hdf
                    try clear hnn
                    try clear q5
                    try clear q4
                    have F0 := cell_regrown c0
                    have F1 := cell_regrown c1
                    have F2 := cell_regrown c2
                    have F3 := cell_regrown c3
                    have F4 := cell_regrown c4
                    have F5 := cell_regrown c5
                    have F6 := cell_regrown c6
                    have F7 := cell_regrown c7
                    have F8 := cell_regrown c8
                    refine wp_region_mix [(0, false), (1, false), (2, true), (3, false), (4, false), (5, false), (6, false), (7, false), (8, false), (9, false), (10, false), (11, false), (12, false), (13, true), (14, true), (15, false), (16, false), (17, false), (18, false), (19, false), (20, false), (21, false), (22, false), (23, false), (24, true), (25, true), (26, false), (27, false), (28, false), (29, false), (30, false), (31, false), (32, false), (33, false), (34, false), (35, true), (36, false), (37, false), (38, false), (39, false), (40, false), (41, false), (42, false), (43, false), (44, false), (45, false), (46, false), (47, false), (48, false), (49, false), (50, false), (51, false), (52, false)] (by kernel_rfl) (by kernel_rfl) ?_
                    have hv0 := below_drawn W
                    generalize { W with drawn := W.drawn + 1 } = V0 at *
                    refine mix_take [0, 1] [_, _] rfl rfl ?_
                    simp only [List.getElem_toArray, List.getElem_cons_zero, List.getElem_cons_succ]
                    repeat (go_big_quiet_step (fail))
                    refine wpQuiet_nil ?_
                    refine mix_bar rfl (by rfl) ?_
                    simp only [List.getElem_toArray, List.getElem_cons_zero, List.getElem_cons_succ]
                    go_simp
                    refine (KC.out V0 hv0).mono ?_
                    rintro e V1 ⟨rfl, hb⟩
                    have hv1 := below_call hv0 hb
                    refine ⟨regrown_of_below hv1, ?_⟩
                    clear hb
                    refine mix_take [3, 4, 5, 6, 7, 8, 9, 10, 11, 12] [_, _, _, _, _, _, _, _, _, _] rfl rfl ?_
                    simp only [List.getElem_toArray, List.getElem_cons_zero, List.getElem_cons_succ]
                    repeat (go_big_quiet_step (fail))
                    refine wpQuiet_nil ?_
                    refine mix_bar rfl (by rfl) ?_
                    simp only [List.getElem_toArray, List.getElem_cons_zero, List.getElem_cons_succ]
                    go_simp
                    refine (froms_any V1).mono ?_
                    rintro e _ ⟨rfl, rfl⟩
                    have hgf := heap_alloc_new V1 (.cells fromsBlk 9)
                    have hv2 := hv1.alloc hv1.size (.cells fromsBlk 9)
                    refine ⟨regrown_of_below hv2, ?_⟩
                    generalize V1.alloc (.cells fromsBlk 9) = V2 at *
                    refine mix_bar rfl (by rfl) ?_
                    simp only [List.getElem_toArray, List.getElem_cons_zero, List.getElem_cons_succ]
                    go_simp
                    refine ⟨regrown_of_below hv2, ?_⟩
                    refine mix_take [15, 16, 17, 18, 19, 20, 21, 22, 23] [_, _, _, _, _, _, _, _, _] rfl rfl ?_
                    simp only [List.getElem_toArray, List.getElem_cons_zero, List.getElem_cons_succ]
                    repeat (go_big_quiet_step (fail))
                    refine wpQuiet_nil ?_
                    refine mix_bar rfl (by rfl) ?_
                    simp only [List.getElem_toArray, List.getElem_cons_zero, List.getElem_cons_succ]
                    go_simp
                    have hg := heap_alloc_new V2 (.cells #[.int .i64 r.di, .int .i64 r.me, .int .i64 r.ta] 3)
                    have hv3 := hv2.alloc hv2.size (.cells #[.int .i64 r.di, .int .i64 r.me, .int .i64 r.ta] 3)
                    refine ⟨regrown_of_below hv3, ?_⟩
                    generalize V2.alloc (.cells #[.int .i64 r.di, .int .i64 r.me, .int .i64 r.ta] 3) = V3 at *
                    refine mix_bar rfl (by rfl) ?_
                    simp only [List.getElem_toArray, List.getElem_cons_zero, List.getElem_cons_succ]
                    go_simp
                    refine (KF.out V3 hv3 _ hg).mono ?_
                    rintro e V4 ⟨rfl, hb⟩
                    have hv4 := below_call hv3 hb
                    refine ⟨regrown_of_below hv4, ?_⟩
                    clear hb
                    refine mix_take [26, 27, 28, 29, 30, 31, 32, 33, 34] [_, _, _, _, _, _, _, _, _] rfl rfl ?_
                    simp only [List.getElem_toArray, List.getElem_cons_zero, List.getElem_cons_succ]
                    repeat (go_big_quiet_step (fail))
                    refine wpQuiet_nil ?_
                    refine mix_bar rfl (by rfl) ?_
                    simp only [List.getElem_toArray, List.getElem_cons_zero, List.getElem_cons_succ]
                    go_simp
                    refine (KN.out V4 hv4).mono ?_
                    rintro e V5 ⟨rfl, hb⟩
                    have hv5 := below_call hv4 hb
                    refine ⟨regrown_of_below hv5, ?_⟩
                    clear hb
                    refine mix_take [36, 37, 38, 39, 40, 41, 42, 43, 44, 45, 46, 47, 48, 49, 50, 51, 52] [_, _, _, _, _, _, _, _, _, _, _, _, _, _, _, _, _] rfl rfl ?_
                    simp only [List.getElem_toArray, List.getElem_cons_zero, List.getElem_cons_succ]
                    repeat (go_big_quiet_step (fail))
                    refine wpQuiet_nil ?_
                    refine mix_end ?_
                    go_wp2_with fail
                    go_meet
                    exact ⟨by rw [hok.out]; rfl, hv5⟩
                · have hdf : r.dc = false := by simpa using hdc
                  rw [hdf] at c8
                  obtain ⟨hf0, hf1⟩ := r.hfr
                  have d0 : (chk r.a r.m != 0) = false := by simpa using q0
                  have d1 : decide (r.fr < 1) = false := by simp; omega
                  have KC := Lib.hid (fun V (hv : Below W.heap.size W V) => addrCheck_any r.a r.m V r.ha.1 r.ha.2)
                  have d2 : decide (9 ≤ r.fr) = false := by simp; omega
                  have hfa : [r.di, r.me, r.ta].all fineB = true := by simpa using q3
                  have KF := Lib.hid (fun V (hv : Below W.heap.size W V) g (hg : V.heap[g]? = some (.cells #[.int .i64 r.di, .int .i64 r.me, .int .i64 r.ta] 3 (0, 0))) => (hfa ▸ fine_any [r.di, r.me, r.ta] _ V (Rd.of_blk (cs := #[.int .i64 r.di, .int .i64 r.me, .int .i64 r.ta]) (t := 3) hg (Nat.le_refl _) rfl) (by simp) : Calls Tryz.prog 17 #[.slice (some ⟨g, 0, none⟩) 3 3] V fun e V' => e = .returned (.bool true) ∧ Below V.heap.size V V'))
                  have d4 : ((⟨r.nm.toArray⟩ : ByteArray).toList == ([] : List UInt8)) = false := by rw [list_of]; simpa using q4
                  have d5 : r.nm.isEmpty = false := by simpa using q4
                  have hnn := hN q4
                  have KN := Lib.hid (fun V (hv : Below W.heap.size W V) => (q5 ▸ hnn V (hE0.below hv) : Calls Tryz.prog 18 #[.string ⟨r.nm.toArray⟩] V fun e V' => e = .returned (.bool true) ∧ Below V.heap.size V V'))
                  have hok := Lib.hid (show r.ok = true from rt_ok_yes ⟨q0, by omega, by omega, by simpa using q3, Or.inr q5, fun h => absurd h hdc⟩)
                  try clear q6
                  try clear hdc
                  try clear hdf
                  try clear hnn
                  try clear q5
                  try clear q4
                  have F0 := cell_regrown c0
                  have F1 := cell_regrown c1
                  have F2 := cell_regrown c2
                  have F3 := cell_regrown c3
                  have F4 := cell_regrown c4
                  have F5 := cell_regrown c5
                  have F6 := cell_regrown c6
                  have F7 := cell_regrown c7
                  have F8 := cell_regrown c8
                  refine wp_region_mix [(0, false), (1, false), (2, true), (3, false), (4, false), (5, false), (6, false), (7, false), (8, false), (9, false), (10, false), (11, false), (12, false), (13, true), (14, true), (15, false), (16, false), (17, false), (18, false), (19, false), (20, false), (21, false), (22, false), (23, false), (24, true), (25, true), (26, false), (27, false), (28, false), (29, false), (30, false), (31, false), (32, false), (33, false), (34, false), (35, true), (36, false), (37, false), (38, false), (39, false), (40, false), (41, false), (42, false), (43, false), (44, false), (45, false), (46, false), (47, false), (48, false), (49, false), (50, false), (51, false), (52, false)] (by kernel_rfl) (by kernel_rfl) ?_
                  have hv0 := below_drawn W
                  generalize { W with drawn := W.drawn + 1 } = V0 at *
                  refine mix_take [0, 1] [_, _] rfl rfl ?_
                  simp only [List.getElem_toArray, List.getElem_cons_zero, List.getElem_cons_succ]
                  repeat (go_big_quiet_step (fail))
                  refine wpQuiet_nil ?_
                  refine mix_bar rfl (by rfl) ?_
                  simp only [List.getElem_toArray, List.getElem_cons_zero, List.getElem_cons_succ]
                  go_simp
                  refine (KC.out V0 hv0).mono ?_
                  rintro e V1 ⟨rfl, hb⟩
                  have hv1 := below_call hv0 hb
                  refine ⟨regrown_of_below hv1, ?_⟩
                  clear hb
                  refine mix_take [3, 4, 5, 6, 7, 8, 9, 10, 11, 12] [_, _, _, _, _, _, _, _, _, _] rfl rfl ?_
                  simp only [List.getElem_toArray, List.getElem_cons_zero, List.getElem_cons_succ]
                  repeat (go_big_quiet_step (fail))
                  refine wpQuiet_nil ?_
                  refine mix_bar rfl (by rfl) ?_
                  simp only [List.getElem_toArray, List.getElem_cons_zero, List.getElem_cons_succ]
                  go_simp
                  refine (froms_any V1).mono ?_
                  rintro e _ ⟨rfl, rfl⟩
                  have hgf := heap_alloc_new V1 (.cells fromsBlk 9)
                  have hv2 := hv1.alloc hv1.size (.cells fromsBlk 9)
                  refine ⟨regrown_of_below hv2, ?_⟩
                  generalize V1.alloc (.cells fromsBlk 9) = V2 at *
                  refine mix_bar rfl (by rfl) ?_
                  simp only [List.getElem_toArray, List.getElem_cons_zero, List.getElem_cons_succ]
                  go_simp
                  refine ⟨regrown_of_below hv2, ?_⟩
                  refine mix_take [15, 16, 17, 18, 19, 20, 21, 22, 23] [_, _, _, _, _, _, _, _, _] rfl rfl ?_
                  simp only [List.getElem_toArray, List.getElem_cons_zero, List.getElem_cons_succ]
                  repeat (go_big_quiet_step (fail))
                  refine wpQuiet_nil ?_
                  refine mix_bar rfl (by rfl) ?_
                  simp only [List.getElem_toArray, List.getElem_cons_zero, List.getElem_cons_succ]
                  go_simp
                  have hg := heap_alloc_new V2 (.cells #[.int .i64 r.di, .int .i64 r.me, .int .i64 r.ta] 3)
                  have hv3 := hv2.alloc hv2.size (.cells #[.int .i64 r.di, .int .i64 r.me, .int .i64 r.ta] 3)
                  refine ⟨regrown_of_below hv3, ?_⟩
                  generalize V2.alloc (.cells #[.int .i64 r.di, .int .i64 r.me, .int .i64 r.ta] 3) = V3 at *
                  refine mix_bar rfl (by rfl) ?_
                  simp only [List.getElem_toArray, List.getElem_cons_zero, List.getElem_cons_succ]
                  go_simp
                  refine (KF.out V3 hv3 _ hg).mono ?_
                  rintro e V4 ⟨rfl, hb⟩
                  have hv4 := below_call hv3 hb
                  refine ⟨regrown_of_below hv4, ?_⟩
                  clear hb
                  refine mix_take [26, 27, 28, 29, 30, 31, 32, 33, 34] [_, _, _, _, _, _, _, _, _] rfl rfl ?_
                  simp only [List.getElem_toArray, List.getElem_cons_zero, List.getElem_cons_succ]
                  repeat (go_big_quiet_step (fail))
                  refine wpQuiet_nil ?_
                  refine mix_bar rfl (by rfl) ?_
                  simp only [List.getElem_toArray, List.getElem_cons_zero, List.getElem_cons_succ]
                  go_simp
                  refine (KN.out V4 hv4).mono ?_
                  rintro e V5 ⟨rfl, hb⟩
                  have hv5 := below_call hv4 hb
                  refine ⟨regrown_of_below hv5, ?_⟩
                  clear hb
                  refine mix_take [36, 37, 38, 39, 40, 41, 42, 43, 44, 45, 46, 47, 48, 49, 50, 51, 52] [_, _, _, _, _, _, _, _, _, _, _, _, _, _, _, _, _] rfl rfl ?_
                  simp only [List.getElem_toArray, List.getElem_cons_zero, List.getElem_cons_succ]
                  repeat (go_big_quiet_step (fail))
                  refine wpQuiet_nil ?_
                  refine mix_end ?_
                  go_wp2_with fail
                  go_meet
                  exact ⟨by rw [hok.out]; rfl, hv5⟩
          · obtain ⟨hf0, hf1⟩ := r.hfr
            have d0 : (chk r.a r.m != 0) = false := by simpa using q0
            have d1 : decide (r.fr < 1) = false := by simp; omega
            have KC := Lib.hid (fun V (hv : Below W.heap.size W V) => addrCheck_any r.a r.m V r.ha.1 r.ha.2)
            have d2 : decide (9 ≤ r.fr) = false := by simp; omega
            have hfa : [r.di, r.me, r.ta].all fineB = false := by simpa using q3
            have KF := Lib.hid (fun V (hv : Below W.heap.size W V) g (hg : V.heap[g]? = some (.cells #[.int .i64 r.di, .int .i64 r.me, .int .i64 r.ta] 3 (0, 0))) => (hfa ▸ fine_any [r.di, r.me, r.ta] _ V (Rd.of_blk (cs := #[.int .i64 r.di, .int .i64 r.me, .int .i64 r.ta]) (t := 3) hg (Nat.le_refl _) rfl) (by simp) : Calls Tryz.prog 17 #[.slice (some ⟨g, 0, none⟩) 3 3] V fun e V' => e = .returned (.bool false) ∧ Below V.heap.size V V'))
            have hok := Lib.hid (show r.ok = false from rt_ok_no (fun h => by have h2 := h.2.2.2.1; simp [h2] at q3))
            try clear q6
            try clear hdc
            try clear hdf
            try clear hnn
            try clear q5
            try clear q4
            have F0 := cell_regrown c0
            have F1 := cell_regrown c1
            have F2 := cell_regrown c2
            have F3 := cell_regrown c3
            have F4 := cell_regrown c4
            have F5 := cell_regrown c5
            have F6 := cell_regrown c6
            have F7 := cell_regrown c7
            have F8 := cell_regrown c8
            refine wp_region_mix [(0, false), (1, false), (2, true), (3, false), (4, false), (5, false), (6, false), (7, false), (8, false), (9, false), (10, false), (11, false), (12, false), (13, true), (14, true), (15, false), (16, false), (17, false), (18, false), (19, false), (20, false), (21, false), (22, false), (23, false), (24, true), (25, true), (26, false), (27, false), (28, false), (29, false), (30, false), (31, false), (32, false), (33, false), (34, false), (35, true), (36, false), (37, false), (38, false), (39, false), (40, false), (41, false), (42, false), (43, false), (44, false), (45, false), (46, false), (47, false), (48, false), (49, false), (50, false), (51, false), (52, false)] (by kernel_rfl) (by kernel_rfl) ?_
            have hv0 := below_drawn W
            generalize { W with drawn := W.drawn + 1 } = V0 at *
            refine mix_take [0, 1] [_, _] rfl rfl ?_
            simp only [List.getElem_toArray, List.getElem_cons_zero, List.getElem_cons_succ]
            repeat (go_big_quiet_step (fail))
            refine wpQuiet_nil ?_
            refine mix_bar rfl (by rfl) ?_
            simp only [List.getElem_toArray, List.getElem_cons_zero, List.getElem_cons_succ]
            go_simp
            refine (KC.out V0 hv0).mono ?_
            rintro e V1 ⟨rfl, hb⟩
            have hv1 := below_call hv0 hb
            refine ⟨regrown_of_below hv1, ?_⟩
            clear hb
            refine mix_take [3, 4, 5, 6, 7, 8, 9, 10, 11, 12] [_, _, _, _, _, _, _, _, _, _] rfl rfl ?_
            simp only [List.getElem_toArray, List.getElem_cons_zero, List.getElem_cons_succ]
            repeat (go_big_quiet_step (fail))
            refine wpQuiet_nil ?_
            refine mix_bar rfl (by rfl) ?_
            simp only [List.getElem_toArray, List.getElem_cons_zero, List.getElem_cons_succ]
            go_simp
            refine (froms_any V1).mono ?_
            rintro e _ ⟨rfl, rfl⟩
            have hgf := heap_alloc_new V1 (.cells fromsBlk 9)
            have hv2 := hv1.alloc hv1.size (.cells fromsBlk 9)
            refine ⟨regrown_of_below hv2, ?_⟩
            generalize V1.alloc (.cells fromsBlk 9) = V2 at *
            refine mix_bar rfl (by rfl) ?_
            simp only [List.getElem_toArray, List.getElem_cons_zero, List.getElem_cons_succ]
            go_simp
            refine ⟨regrown_of_below hv2, ?_⟩
            refine mix_take [15, 16, 17, 18, 19, 20, 21, 22, 23] [_, _, _, _, _, _, _, _, _] rfl rfl ?_
            simp only [List.getElem_toArray, List.getElem_cons_zero, List.getElem_cons_succ]
            repeat (go_big_quiet_step (fail))
            refine wpQuiet_nil ?_
            refine mix_bar rfl (by rfl) ?_
            simp only [List.getElem_toArray, List.getElem_cons_zero, List.getElem_cons_succ]
            go_simp
            have hg := heap_alloc_new V2 (.cells #[.int .i64 r.di, .int .i64 r.me, .int .i64 r.ta] 3)
            have hv3 := hv2.alloc hv2.size (.cells #[.int .i64 r.di, .int .i64 r.me, .int .i64 r.ta] 3)
            refine ⟨regrown_of_below hv3, ?_⟩
            generalize V2.alloc (.cells #[.int .i64 r.di, .int .i64 r.me, .int .i64 r.ta] 3) = V3 at *
            refine mix_bar rfl (by rfl) ?_
            simp only [List.getElem_toArray, List.getElem_cons_zero, List.getElem_cons_succ]
            go_simp
            refine (KF.out V3 hv3 _ hg).mono ?_
            rintro e V4 ⟨rfl, hb⟩
            have hv4 := below_call hv3 hb
            refine ⟨regrown_of_below hv4, ?_⟩
            clear hb
            refine mix_take [26, 27, 28, 29, 30, 31, 32, 33, 34] [_, _, _, _, _, _, _, _, _] rfl rfl ?_
            simp only [List.getElem_toArray, List.getElem_cons_zero, List.getElem_cons_succ]
            repeat (go_big_quiet_step (fail))
            refine wpQuiet_nil ?_
            refine mix_not rfl (by rfl) ?_
            simp only [List.getElem_toArray, List.getElem_cons_zero, List.getElem_cons_succ]
            go_simp
            refine mix_take [36, 37, 38, 39, 40, 41, 42, 43, 44, 45, 46, 47, 48, 49, 50, 51, 52] [_, _, _, _, _, _, _, _, _, _, _, _, _, _, _, _, _] rfl rfl ?_
            simp only [List.getElem_toArray, List.getElem_cons_zero, List.getElem_cons_succ]
            repeat (go_big_quiet_step (fail))
            refine wpQuiet_nil ?_
            refine mix_end ?_
            go_wp2_with fail
            go_meet
            exact ⟨by rw [hok.out]; rfl, hv4⟩
    · obtain ⟨hf0, hf1⟩ := r.hfr
      have d0 : (chk r.a r.m != 0) = true := by simpa using q0
      have KC := Lib.hid (fun V (hv : Below W.heap.size W V) => addrCheck_any r.a r.m V r.ha.1 r.ha.2)
      have hok := Lib.hid (show r.ok = false from rt_ok_no (fun h => q0 h.1))
      try clear q6
      try clear hdc
      try clear hdf
      try clear hnn
      try clear q5
      try clear q4
      have F0 := cell_regrown c0
      have F1 := cell_regrown c1
      have F2 := cell_regrown c2
      have F3 := cell_regrown c3
      have F4 := cell_regrown c4
      have F5 := cell_regrown c5
      have F6 := cell_regrown c6
      have F7 := cell_regrown c7
      have F8 := cell_regrown c8
      refine wp_region_mix [(0, false), (1, false), (2, true), (3, false), (4, false), (5, false), (6, false), (7, false), (8, false), (9, false), (10, false), (11, false), (12, false), (13, true), (14, true), (15, false), (16, false), (17, false), (18, false), (19, false), (20, false), (21, false), (22, false), (23, false), (24, true), (25, true), (26, false), (27, false), (28, false), (29, false), (30, false), (31, false), (32, false), (33, false), (34, false), (35, true), (36, false), (37, false), (38, false), (39, false), (40, false), (41, false), (42, false), (43, false), (44, false), (45, false), (46, false), (47, false), (48, false), (49, false), (50, false), (51, false), (52, false)] (by kernel_rfl) (by kernel_rfl) ?_
      have hv0 := below_drawn W
      generalize { W with drawn := W.drawn + 1 } = V0 at *
      refine mix_take [0, 1] [_, _] rfl rfl ?_
      simp only [List.getElem_toArray, List.getElem_cons_zero, List.getElem_cons_succ]
      repeat (go_big_quiet_step (fail))
      refine wpQuiet_nil ?_
      refine mix_bar rfl (by rfl) ?_
      simp only [List.getElem_toArray, List.getElem_cons_zero, List.getElem_cons_succ]
      go_simp
      refine (KC.out V0 hv0).mono ?_
      rintro e V1 ⟨rfl, hb⟩
      have hv1 := below_call hv0 hb
      refine ⟨regrown_of_below hv1, ?_⟩
      clear hb
      refine mix_take [3, 4, 5, 6, 7, 8, 9, 10, 11, 12] [_, _, _, _, _, _, _, _, _, _] rfl rfl ?_
      simp only [List.getElem_toArray, List.getElem_cons_zero, List.getElem_cons_succ]
      repeat (go_big_quiet_step (fail))
      refine wpQuiet_nil ?_
      refine mix_not rfl (by rfl) ?_
      simp only [List.getElem_toArray, List.getElem_cons_zero, List.getElem_cons_succ]
      go_simp
      refine mix_not rfl (by rfl) ?_
      simp only [List.getElem_toArray, List.getElem_cons_zero, List.getElem_cons_succ]
      go_simp
      refine mix_take [15, 16, 17, 18, 19, 20, 21, 22, 23] [_, _, _, _, _, _, _, _, _] rfl rfl ?_
      simp only [List.getElem_toArray, List.getElem_cons_zero, List.getElem_cons_succ]
      repeat (go_big_quiet_step (fail))
      refine wpQuiet_nil ?_
      refine mix_not rfl (by rfl) ?_
      simp only [List.getElem_toArray, List.getElem_cons_zero, List.getElem_cons_succ]
      go_simp
      refine mix_not rfl (by rfl) ?_
      simp only [List.getElem_toArray, List.getElem_cons_zero, List.getElem_cons_succ]
      go_simp
      refine mix_take [26, 27, 28, 29, 30, 31, 32, 33, 34] [_, _, _, _, _, _, _, _, _] rfl rfl ?_
      simp only [List.getElem_toArray, List.getElem_cons_zero, List.getElem_cons_succ]
      repeat (go_big_quiet_step (fail))
      refine wpQuiet_nil ?_
      refine mix_not rfl (by rfl) ?_
      simp only [List.getElem_toArray, List.getElem_cons_zero, List.getElem_cons_succ]
      go_simp
      refine mix_take [36, 37, 38, 39, 40, 41, 42, 43, 44, 45, 46, 47, 48, 49, 50, 51, 52] [_, _, _, _, _, _, _, _, _, _, _, _, _, _, _, _, _] rfl rfl ?_
      simp only [List.getElem_toArray, List.getElem_cons_zero, List.getElem_cons_succ]
      repeat (go_big_quiet_step (fail))
      refine wpQuiet_nil ?_
      refine mix_end ?_
      go_wp2_with fail
      go_meet
      exact ⟨by rw [hok.out]; rfl, hv1⟩
  case rest =>
    obtain ⟨rfl, hbR⟩ := hcut
    rename World => wa
    have sz0 : w.heap.size < W.heap.size := lt_of_block hk0
    have hk : wa.heap[w.heap.size]? = some (rtObj r) := (hbR.block _ sz0).trans hk0
    have hbw := hb0.trans (hbR.mono hb0.size)
    cases hok : r.ok with
    | false =>
      have ht := Lib.hid (rt_told_no hok)
      clear hok hk0 c0 c1 c2 c3 c4 c5 c6 c7 c8
      go_wp2
      go_ret2
      exact ⟨by rw [ht.out.1, ht.out.2]; rfl, hbw⟩
    | true =>
      have ht := Lib.hid (rt_told_yes hok)
      obtain ⟨k0, k1, k2, ⟨k3, k4, k5⟩, k6, k7⟩ := rt_ok_iff.1 hok
      have kc := chk_ok k0
      have HOKL := Lib.hid (rt_text_len hok)
      have l3 := fine_iff.1 k3
      have l4 := fine_iff.1 k4
      have l5 := fine_iff.1 k5
      obtain ⟨kf, hkf⟩ := Int.eq_ofNat_of_zero_le (show 0 ≤ r.fr by omega)
      have hkf8 : kf ≤ 8 := by omega
      have hEc := hE.below hbw
      clear k3 k4 k5 k6 k7
      clear c0 c1 c2 c3 c4 c5 c6 c7 c8 hok
      obtain ⟨c0, c1, c2, c3, c4, c5, c6, c7, c8⟩ := blk9 (t := 27) (show wa.heap[w.heap.size]? = some (.cells #[.int .u32 r.a, .int .i64 r.m, .int .u8 r.fr, .int .i64 r.di, .int .i64 r.me, .int .i64 r.ta, .string ⟨r.nm.toArray⟩, .int .u32 r.ho, .bool r.dc] 27 (0, 0)) from hk)
      have c2' : wa.cell? ⟨w.heap.size, 2, none⟩ = some (.int .u8 (kf : Int)) := by rw [c2, hkf]
      clear c2
      have KP := Lib.hid (fun V (hv : Below wa.heap.size wa V) => prefI_any r.a r.m r.ha r.hm.1 r.hm.2 V (hEc.below hv))
      have KD := Lib.hid (fun V (hv : Below wa.heap.size wa V) => itoaN_any r.di l3.1 (by omega) V (hEc.below hv))
      have KM := Lib.hid (fun V (hv : Below wa.heap.size wa V) => itoaN_any r.me l4.1 (by omega) V (hEc.below hv))
      have KT := Lib.hid (fun V (hv : Below wa.heap.size wa V) => itoaN_any r.ta l5.1 (by omega) V (hEc.below hv))
      have hff := fromsBlk_at hkf8
      have I0 : (0 : Int) ≤ (kf : Int) := by omega
      have I1 : (kf : Int) < 9 := by omega
      generalize hq0 : (⟨(prefT r.a r.m).toArray⟩ : ByteArray) = q0 at *
      have HQ0 := Lib.hid (show q0.data.toList = prefT r.a r.m by rw [← hq0])
      clear hq0
      go_upto_region 3 with fail
      have F0 := cell_regrown c0
      have F1 := cell_regrown c1
      have F2 := cell_regrown c2'
      have F3 := cell_regrown c3
      have F4 := cell_regrown c4
      have F5 := cell_regrown c5
      refine wp_region_mix [(0, false), (1, false), (4, false), (5, false), (8, false), (9, false), (11, false), (12, false), (14, false), (15, false), (2, true), (3, true), (6, false), (7, false), (10, true), (13, true), (16, true), (17, true), (18, false)] (by kernel_rfl) (by kernel_rfl) ?_
      have hv0 := below_drawn wa
      generalize { wa with drawn := wa.drawn + 1 } = V0 at *
      refine mix_take [0, 1, 4, 5, 8, 9, 11, 12, 14, 15] [_, _, _, _, _, _, _, _, _, _] rfl rfl ?_
      simp only [List.getElem_toArray, List.getElem_cons_zero, List.getElem_cons_succ]
      repeat (go_big_quiet_step (fail))
      refine wpQuiet_nil ?_
      refine mix_bar rfl (by rfl) ?_
      simp only [List.getElem_toArray, List.getElem_cons_zero, List.getElem_cons_succ]
      go_simp
      refine (KP.out V0 hv0).mono ?_
      rintro e V1 ⟨rfl, hb⟩
      have hv1 := below_call hv0 hb
      refine ⟨regrown_of_below hv1, ?_⟩
      clear hb
      refine mix_new rfl (by rfl) ?_
      simp only [List.getElem_toArray, List.getElem_cons_zero, List.getElem_cons_succ]
      go_simp
      refine (froms_any V1).mono ?_
      rintro e _ ⟨rfl, rfl⟩
      have hgf := heap_alloc_new V1 (.cells fromsBlk 9)
      have hv2 := hv1.alloc hv1.size (.cells fromsBlk 9)
      refine ⟨hv2, ?_⟩
      generalize V1.alloc (.cells fromsBlk 9) = V2 at *
      have hx2 := Below.refl V2.heap.size V2
      have hcf := (cell_of_row V2 _ kf _ _ _ hgf).trans hff
      have G := cell_regrown hcf
      refine mix_take [6, 7] [_, _] rfl rfl ?_
      simp only [List.getElem_toArray, List.getElem_cons_zero, List.getElem_cons_succ]
      repeat (go_big_quiet_step (fail))
      refine wpQuiet_nil ?_
      refine mix_bar rfl (by rfl) ?_
      simp only [List.getElem_toArray, List.getElem_cons_zero, List.getElem_cons_succ]
      go_simp
      refine (KD.out V2 hv2).mono ?_
      rintro e V3 ⟨rfl, hb⟩
      have hv3 := below_call hv2 hb
      have hx3 := below_call hx2 hb
      refine ⟨regrown_of_below hx3, ?_⟩
      clear hb
      refine mix_bar rfl (by rfl) ?_
      simp only [List.getElem_toArray, List.getElem_cons_zero, List.getElem_cons_succ]
      go_simp
      refine (KM.out V3 hv3).mono ?_
      rintro e V4 ⟨rfl, hb⟩
      have hv4 := below_call hv3 hb
      have hx4 := below_call hx3 hb
      refine ⟨regrown_of_below hx4, ?_⟩
      clear hb
      refine mix_bar rfl (by rfl) ?_
      simp only [List.getElem_toArray, List.getElem_cons_zero, List.getElem_cons_succ]
      go_simp
      refine (KT.out V4 hv4).mono ?_
      rintro e V5 ⟨rfl, hb⟩
      have hv5 := below_call hv4 hb
      have hx5 := below_call hx4 hb
      refine ⟨regrown_of_below hx5, ?_⟩
      clear hb
      refine mix_bar rfl (by rfl) ?_
      simp only [List.getElem_toArray, List.getElem_cons_zero, List.getElem_cons_succ]
      go_simp
      have hgw := heap_alloc_new V5 (.cells #[.string q0, .string ⟨(fromW kf).toArray⟩, .string ⟨(Lib.decDigits r.di.toNat).toArray⟩, .string ⟨(Lib.decDigits r.me.toNat).toArray⟩, .string ⟨(Lib.decDigits r.ta.toNat).toArray⟩] 9)
      have hv6 := hv5.alloc hv5.size (.cells #[.string q0, .string ⟨(fromW kf).toArray⟩, .string ⟨(Lib.decDigits r.di.toNat).toArray⟩, .string ⟨(Lib.decDigits r.me.toNat).toArray⟩, .string ⟨(Lib.decDigits r.ta.toNat).toArray⟩] 9)
      have hx6 := hx5.alloc hx5.size (.cells #[.string q0, .string ⟨(fromW kf).toArray⟩, .string ⟨(Lib.decDigits r.di.toNat).toArray⟩, .string ⟨(Lib.decDigits r.me.toNat).toArray⟩, .string ⟨(Lib.decDigits r.ta.toNat).toArray⟩] 9)
      refine ⟨regrown_of_below hx6, ?_⟩
      generalize V5.alloc (.cells #[.string q0, .string ⟨(fromW kf).toArray⟩, .string ⟨(Lib.decDigits r.di.toNat).toArray⟩, .string ⟨(Lib.decDigits r.me.toNat).toArray⟩, .string ⟨(Lib.decDigits r.ta.toNat).toArray⟩] 9) = V6 at *
      refine mix_take [18] [_] rfl rfl ?_
      simp only [List.getElem_toArray, List.getElem_cons_zero, List.getElem_cons_succ]
      repeat (go_big_quiet_step (fail))
      refine wpQuiet_nil ?_
      refine mix_end ?_
      have d6 := cell_kept hv6 c6
      have d7 := cell_kept hv6 c7
      have d8 := cell_kept hv6 c8
      have hown := owns_of_block (base := wa.heap.size) (size := 1) (n := 5) (c := 5) (xs := [q0, ⟨(fromW kf).toArray⟩, ⟨(Lib.decDigits r.di.toNat).toArray⟩, ⟨(Lib.decDigits r.me.toNat).toArray⟩, ⟨(Lib.decDigits r.ta.toNat).toArray⟩].map Value.string) hgw (Nat.le_refl _) (by unfold maxLen; omega) rfl rfl rfl hv5.size
      generalize hB5 : ([q0, ⟨(fromW kf).toArray⟩, ⟨(Lib.decDigits r.di.toNat).toArray⟩, ⟨(Lib.decDigits r.me.toNat).toArray⟩, ⟨(Lib.decDigits r.ta.toNat).toArray⟩] : List ByteArray) = B5 at *
      have hl5 : B5.length = 5 := by rw [← hB5]; rfl
      have HB5 := Lib.hid hB5
      have C6 := Lib.hid c6
      have C7 := Lib.hid c7
      have C8 := Lib.hid c8
      clear hB5 c0 c1 c2' c3 c4 c5 c6 c7 c8 hgw hgf hcf hff F0 F1 F2 F3 F4 F5 G KP KD KM KT
      obtain ⟨i0, hi, hz0, hz1, hz2⟩ := info_parts Tryz.infoStr
      generalize (Value.agg #[.int .u32 r.a, .int .i64 r.m, .int .u8 (kf : Int), .int .i64 r.di, .int .i64 r.me, .int .i64 r.ta, .string ⟨r.nm.toArray⟩, .int .u32 r.ho, .bool r.dc] : Value) = vr at *
      go_upto_if 78 with fail
      go_cut [4] (fun sv wx => wx.ownsRow wa.heap.size 9 1 sv (B5 ++ r.hopB).length ((B5 ++ r.hopB).map Value.string) ∧ Below wa.heap.size wa wx)
      case first =>
        by_cases q1 : r.ho = 0
        · have e1 : (r.ho != 0) = false := by simpa using q1
          have hh : r.hopB = [] := by unfold RtV.hopB; rw [if_pos q1]
          have HH := Lib.hid hh
          clear hh q1
          go_wp2_with fail
          go_meet
          rw [HH.out, List.append_nil, hl5]
          exact ⟨hown, hv6⟩
        · have e1 : (r.ho != 0) = true := by simpa using q1
          have hh : r.hopB = [⟨viaW.toArray⟩, textA r.ho.toNat] := by unfold RtV.hopB; rw [if_neg q1]
          have HH := Lib.hid hh
          have hT := Lib.hid (addrTextI_any r.ho r.hho V6 (hEc.below hv6))
          clear hh q1
          generalize textA r.ho.toNat = qh at *
          go_wp2_with fail
          refine hT.out.mono ?_
          rintro e V7 ⟨rfl, hb⟩
          have hv7 := below_call hv6 hb
          have hown7 := owns_kept_none hown (only_of_below hb none)
          have sz7 := hv7.size
          clear hb hown
          go_wp2_with (at_builtin; refine wpList_pushN rfl _ _ 45 rfl 9 i0 _ 1 16 Tryz.underlying45 hi hz0 hz1 hz2 rfl (by decide) (by decide) 2 (by decide) (by decide) [.string ⟨#[118, 105, 97]⟩, .string qh] rfl rfl (by simp) hown7 rfl (str_one (l := [⟨#[118, 105, 97]⟩, qh])) (by omega) sz7 hv7 (Nat.le_refl _) ?_; intro v8 V8 hown8 hv8)
          go_meet
          rw [HH.out, List.length_append, List.map_append, hl5]
          exact ⟨hown8, hv8⟩
      case rest =>
        obtain ⟨hown1, hv7⟩ := hcut
        rename World => wb
        obtain ⟨A1, g1, rfl, _⟩ := owns_form hown1
        have lh : r.hopB.length ≤ 2 := by unfold RtV.hopB; split <;> simp
        have d6 := cell_kept hv7 C6.out
        go_upto_if 87 with fail
        go_cut [4] (fun sv wx => wx.ownsRow wa.heap.size 9 1 sv ((B5 ++ r.hopB) ++ r.nmB).length (((B5 ++ r.hopB) ++ r.nmB).map Value.string) ∧ Below wa.heap.size wa wx)
        case first =>
          by_cases q4 : r.nm = []
          · have d5 : r.nm.isEmpty = true := by simpa using q4
            have d9 : (!r.nm.isEmpty) = false := by rw [d5]; rfl
            have d4 : ((⟨r.nm.toArray⟩ : ByteArray).toList == ([] : List UInt8)) = true := by rw [list_of]; simpa using q4
            have hh : r.nmB = [] := by unfold RtV.nmB; rw [if_pos q4]
            have HH := Lib.hid hh
            clear hh q4
            simp only [d9]
            go_wp2_with fail
            go_meet
            rw [HH.out, List.append_nil]
            exact ⟨hown1, hv7⟩
          · have d5 : r.nm.isEmpty = false := by simpa using q4
            have d9 : (!r.nm.isEmpty) = true := by rw [d5]; rfl
            have d4 : ((⟨r.nm.toArray⟩ : ByteArray).toList == ([] : List UInt8)) = false := by rw [list_of]; simpa using q4
            have hh : r.nmB = [⟨onW.toArray⟩, ⟨r.nm.toArray⟩] := by unfold RtV.nmB; rw [if_neg q4]
            have HH := Lib.hid hh
            have sz7 := hv7.size
            clear hh q4
            simp only [d9]
            go_wp2_with (at_builtin; refine wpList_pushN rfl _ _ 45 rfl 9 i0 _ 1 16 Tryz.underlying45 hi hz0 hz1 hz2 rfl (by decide) (by decide) 2 (by decide) (by decide) [.string ⟨#[111, 110]⟩, .string ⟨r.nm.toArray⟩] rfl rfl (by simp) hown1 rfl (str_one (l := [⟨#[111, 110]⟩, ⟨r.nm.toArray⟩])) (by rw [List.length_append]; omega) sz7 hv7 (Nat.le_refl _) ?_; intro v8 V8 hown8 hv8)
            go_meet
            rw [HH.out, List.length_append, List.map_append]
            exact ⟨hown8, hv8⟩
        case rest =>
          clear d6 hown1
          obtain ⟨hown2, hv8⟩ := hcut
          rename World => wd
          obtain ⟨A2, g2, rfl, _⟩ := owns_form hown2
          have ln : r.nmB.length ≤ 2 := by unfold RtV.nmB; split <;> simp
          have d8 := cell_kept hv8 C8.out
          go_upto_if 94 with fail
          go_cut [4] (fun sv wx => wx.ownsRow wa.heap.size 9 1 sv (((B5 ++ r.hopB) ++ r.nmB) ++ r.dcB).length ((((B5 ++ r.hopB) ++ r.nmB) ++ r.dcB).map Value.string) ∧ Below wa.heap.size wa wx)
          case first =>
            by_cases hdc : r.dc = true
            · have hh : r.dcB = [⟨discW.toArray⟩] := by unfold RtV.dcB; rw [if_pos hdc]
              have HH := Lib.hid hh
              have HD := Lib.hid hdc
              have sz8 := hv8.size
              clear hh
              have hd8 := d8
              rw [HD.out] at hd8
              clear d8
              simp only [hdc]
              go_wp2_with (at_builtin; refine wpList_pushN rfl _ _ 45 rfl 9 i0 _ 1 16 Tryz.underlying45 hi hz0 hz1 hz2 rfl (by decide) (by decide) 1 (by decide) (by decide) [.string ⟨#[100, 105, 115, 99, 97, 114, 100]⟩] rfl rfl (by simp) hown2 rfl (str_one (l := [⟨#[100, 105, 115, 99, 97, 114, 100]⟩])) (by rw [List.length_append, List.length_append]; omega) sz8 hv8 (Nat.le_refl _) ?_; intro v9 V9 hown9 hv9)
              go_meet
              rw [HH.out, List.length_append, List.map_append]
              exact ⟨hown9, hv9⟩
            · have hdf : r.dc = false := by simpa using hdc
              have hh : r.dcB = [] := by unfold RtV.dcB; rw [if_neg hdc]
              have HH := Lib.hid hh
              have HD := Lib.hid hdf
              clear hh hdc
              have hd8 := d8
              rw [HD.out] at hd8
              clear d8
              simp only [hdf]
              go_wp2_with fail
              go_meet
              rw [HH.out, List.append_nil]
              exact ⟨hown2, hv8⟩
          case rest =>
            clear d8 hown2
            obtain ⟨hown3, hv9⟩ := hcut
            rename World => we
            obtain ⟨A3, g3, rfl, _⟩ := owns_form hown3
            have ld : r.dcB.length ≤ 1 := by unfold RtV.dcB; split <;> simp
            have hW := rt_words_B (r := r) HQ0.out hkf
            rw [HB5.out] at hW
            have hlen := HOKL.out
            have hj := lineO_any (((B5 ++ r.hopB) ++ r.nmB) ++ r.dcB) _ _ we hown3 (by simp only [List.length_append]; omega) (by simp only [List.length_append]; omega) (by rw [hW]; show r.text.length ≤ _; omega)
            rw [hW] at hj
            have HJ := Lib.hid (show Calls Tryz.prog 22 #[.slice A3 (((B5 ++ r.hopB) ++ r.nmB) ++ r.dcB).length g3] we fun e V' => e = .returned (.string ⟨r.text.toArray⟩) ∧ Below we.heap.size we V' from hj)
            clear hj hW hlen
            generalize (((B5 ++ r.hopB) ++ r.nmB) ++ r.dcB).length = nn at *
            go_wp2_with fail
            refine HJ.out.mono ?_
            rintro e wf ⟨rfl, hb⟩
            have hbf := below_call (hbw.trans (hv9.mono hbw.size)) hb
            go_wp2
            go_ret2
            exact ⟨by rw [ht.out.1, ht.out.2]; rfl, hbf⟩
end Go.Proofs.YtpmoepipoafegaaGreatDoor

/-
  strconv.ParseUint at base 10 and 31 bits: the shelf holds 8, 16, 32 and 64 bits alone. Walked over any program that lays the shelf's text of it.
-/
namespace Go.Proofs.YtpmoepipoafegaaGreatDoor
open Go Go.Shelf Go.RowKit
variable {P : Program} {ρ : Ren}

/-- Where the loop over the digits stands: k bytes read, their number is a. -/
def At31 (bs : List UInt8) (k : Nat) (a : Int) : Prop :=
  ∃ m : Nat, a = m ∧ m ≤ 2147483647 ∧ Lib.parseUintM 2147483647 0 bs = Lib.parseUintM 2147483647 m (bs.drop k)
theorem at31_start (bs : List UInt8) : At31 bs 0 0 := ⟨0, rfl, by omega, rfl⟩
theorem At31.le {bs : List UInt8} {k : Nat} {a : Int} (h : At31 bs k a) : 0 ≤ a ∧ a ≤ 2147483647 := by
  obtain ⟨m, h1, h2, _⟩ := h; omega
theorem At31.next {bs : List UInt8} {k : Nat} {a : Int} {c : UInt8} (h : At31 bs k a) (hc : bs[k]? = some c) (h0 : 48 ≤ c.toNat) (h1 : c.toNat ≤ 57) (hle : a * 10 + ((c.toNat : Int) - 48) ≤ 2147483647) : At31 bs (k + 1) (a * 10 + ((c.toNat : Int) - 48)) := by
  obtain ⟨m, rfl, h2, h3⟩ := h
  obtain ⟨hk, hg⟩ := List.getElem?_eq_some_iff.1 hc
  refine ⟨m * 10 + (c.toNat - 48), by omega, by omega, ?_⟩
  rw [h3, List.drop_eq_getElem_cons hk, hg, Lib.parseUintM, if_pos ⟨h0, h1⟩, if_neg (by omega), if_neg (by omega)]
theorem At31.over {bs : List UInt8} {k : Nat} {a : Int} {c : UInt8} (h : At31 bs k a) (hc : bs[k]? = some c) (h0 : 48 ≤ c.toNat) (h1 : c.toNat ≤ 57) (hle : 2147483647 < a * 10 + ((c.toNat : Int) - 48)) : Lib.parseUintM 2147483647 0 bs = .range := by
  obtain ⟨m, rfl, h2, h3⟩ := h
  obtain ⟨hk, hg⟩ := List.getElem?_eq_some_iff.1 hc
  rw [h3, List.drop_eq_getElem_cons hk, hg, Lib.parseUintM, if_pos ⟨h0, h1⟩, if_neg (by omega), if_pos (by omega)]
theorem At31.odd {bs : List UInt8} {k : Nat} {a : Int} {c : UInt8} (h : At31 bs k a) (hc : bs[k]? = some c) (hd : ¬ (48 ≤ c.toNat ∧ c.toNat ≤ 57)) : Lib.parseUintM 2147483647 0 bs = Lib.NumEnd.syntax := by
  obtain ⟨m, rfl, h2, h3⟩ := h
  obtain ⟨hk, hg⟩ := List.getElem?_eq_some_iff.1 hc
  rw [h3, List.drop_eq_getElem_cons hk, hg, Lib.parseUintM, if_neg hd]
theorem At31.done {bs : List UInt8} {k : Nat} {a : Int} (h : At31 bs k a) (hk : bs.length ≤ k) : ∃ m : Nat, a = m ∧ Lib.parseUintM 2147483647 0 bs = .ok m := by
  obtain ⟨m, h1, h2, h3⟩ := h
  exact ⟨m, h1, by rw [h3, List.drop_eq_nil_of_le hk]; rfl⟩

set_option maxHeartbeats 32000000 in
set_option maxRecDepth 100000 in
/-- The inner function, at a string that is not empty. -/
theorem inner31 (L : LaysPu.n16 P ρ) (t : ByteArray) (hne : t.size ≠ 0) (hmax : t.size ≤ 9223372036854775806) (w : World) :
    Calls P (ρ.f 16) #[.string t, .int .i64 10, .int .i64 31] w fun e w' => e = .returned (Lib.uintTupleM (ρ.t 34) 2147483647 (Lib.parseUintM 2147483647 0 t.data.toList)) ∧ w' = Lib.bytesWorld w (ρ.t 5) t := by
  have mixed := L.mixed
  have t9 := L.t9; have a9 := L.a9; have z9 := L.z9; have v9 := L.v9
  have t3 := L.t3; have a3 := L.a3; have z3 := L.z3; have v3 := L.v3
  have t22 := L.t22; have a22 := L.a22; have z22 := L.z22; have v22 := L.v22
  have t24 := L.t24; have a24 := L.a24; have z24 := L.z24; have v24 := L.v24
  have t4 := L.t4; have a4 := L.a4; have z4 := L.z4; have v4 := L.v4
  have t34 := L.t34; have a34 := L.a34; have z34 := L.z34; have v34 := L.v34
  have t5 := L.t5; have a5 := L.a5; have z5 := L.z5; have v5 := L.v5
  have t36 := L.t36; have a36 := L.a36; have z36 := L.z36; have v36 := L.v36
  have t37 := L.t37; have a37 := L.a37; have z37 := L.z37; have v37 := L.v37
  have t0 := L.t0; have a0 := L.a0; have z0 := L.z0; have v0 := L.v0
  have e19 : ∀ args w, (callFunc (ρ.f 19) args).run P w = .ok (.enter (ρ.f 19) args) w := enters_of L.f19 (by kernel_rfl) rfl
  have hemp : t.toList.isEmpty = false := by
    rw [← decide_eq_emptyBytes]
    exact decide_eq_false (fun h => hne (by rw [h]; rfl))
  have hcv := Lib.run_convert_string_bytes (P := P) w (ρ.t 9) (ρ.t 37) (ρ.t 5) t (u := .string) L.t9 L.t37 L.t5
  have hB : ∀ j c, t.data.toList[j]? = some c → (Lib.bytesWorld w (ρ.t 5) t).cell? ⟨w.heap.size, j, none⟩ = some (.int .u8 (c : UInt8).toNat) := fun j c hj => by
    have h1 := Lib.bytesWorld_cell w (ρ.t 5) t j (by rw [Lib.size_eq]; exact (List.getElem?_eq_some_iff.1 hj).1)
    rw [List.getD_eq_getElem?_getD, hj] at h1
    exact h1
  have hLn : t.data.toList.length = t.size := by rw [Lib.size_eq]
  generalize Lib.bytesWorld w (ρ.t 5) t = W1 at *
  generalize t.data.toList = bs at *
  have hmv : IntKind.u64.wrap (IntKind.u64.wrap 2147483648 - 1) = 2147483647 := by
    rw [IntKind.wrap_u64, IntKind.wrap_u64]
    decide
  go_enter L.f16, BodyPu.n16_ntmps ρ
  go_wp2
  go_loop [12, 13, 101] (fun vu vn vi => ∃ (k : Nat) (a : Int), vu = .bool false ∧ vn = .int .u64 a ∧ vi = .int .i64 k ∧ k ≤ t.size ∧ Hid (At31 bs k a)) (fun _ _ vi => t.size - (intOf vi).toNat)
  case atStart => exact ⟨0, 0, rfl, rfl, rfl, by omega, at31_start bs⟩
  case round =>
    obtain ⟨k, a, rfl, rfl, rfl, hk, hh⟩ := hrel
    obtain ⟨a0, a1⟩ := hh.out.le
    by_cases hkn : k < t.size
    · obtain ⟨c, hget⟩ : ∃ c, bs[k]? = some c := ⟨_, List.getElem?_eq_getElem (by omega)⟩
      have hc := hB k c hget
      have hc256 : c.toNat < 256 := c.toNat_lt
      have HG := Lib.hid hget
      clear hB hget
      by_cases hdig : 48 ≤ c.toNat ∧ c.toNat ≤ 57
      · obtain ⟨hd0, hd1⟩ := hdig
        by_cases iov : 2147483647 < a * 10 + ((c.toNat : Int) - 48)
        · have hF := Lib.hid (hh.out.over HG.out hd0 hd1 iov)
          clear hh
          go_wp2
          go_ret2
          exact ⟨by rw [hF.out]; rfl, rfl⟩
        · have hN := Lib.hid (hh.out.next HG.out hd0 hd1 (by omega))
          have iov2 : a * 10 + ((c.toNat : Int) - 48) ≤ 2147483647 := by omega
          clear hh iov
          go_wp2
          refine ⟨⟨k + 1, a * 10 + ((c.toNat : Int) - 48), rfl, (by first | rfl | (congr 1; omega)), (by first | rfl | (congr 1; omega)), by omega, hN⟩, by simp [intOf]; omega⟩
      · have hF := Lib.hid (hh.out.odd HG.out hdig)
        clear hh
        have hv0 := bits_lo_u8 .or (c.toNat : Int) 32
        have hv1 := bits_hi_u8 .or (c.toNat : Int) 32
        have hu0 := bits_lo_u8 .or 95 32
        have hu1 := bits_hi_u8 .or 95 32
        go_wp2_with (go_at_fn (ρ.f 19); refine (AnyPu.internal_strconv_lower { L with } _ _).mono ?_; rintro e w' ⟨rfl, rfl⟩)
        all_goals go_ret2
        all_goals exact ⟨by rw [hF.out]; rfl, rfl⟩
    · obtain ⟨m, hm, hF⟩ := hh.out.done (by omega)
      have HF := Lib.hid hF
      have hkk : k = t.size := by omega
      subst hkk hm
      clear hh hF
      go_wp2
      go_ret2
      exact ⟨by rw [HF.out]; rfl, rfl⟩

/-- The inner function, at any string. -/
theorem at31 (L : LaysPu.n16 P ρ) (t : ByteArray) (hmax : t.size ≤ 9223372036854775806) (w : World) :
    Calls P (ρ.f 16) #[.string t, .int .i64 10, .int .i64 31] w fun e w' => e = .returned (Lib.uintTupleM (ρ.t 34) 2147483647 (Lib.parseUintB 31 t.data.toList)) ∧ (w' = w ∨ w' = Lib.bytesWorld w (ρ.t 5) t) := by
  by_cases h0 : t.size = 0
  · have ht : t = ⟨#[]⟩ := ByteArray.ext (Array.eq_empty_of_size_eq_zero h0)
    subst ht
    exact (AnyPu.internal_strconv_ParseUint_empty { L with } 10 31 w).mono fun e w' ⟨he, hw⟩ => ⟨he, Or.inl hw⟩
  · have hne : t.data.toList ≠ [] := fun h => h0 (by rw [Lib.size_eq, h]; rfl)
    refine (inner31 L t h0 hmax w).mono fun e w' ⟨he, hw⟩ => ⟨?_, Or.inr hw⟩
    rw [he, Lib.parseUintB, if_neg hne]

set_option maxHeartbeats 4000000 in
set_option maxRecDepth 100000 in
/-- A string that spells a number of 31 bits. -/
theorem parse31_ok (L : LaysPu.n14 P ρ) (s : ByteArray) (hmax : s.size ≤ 9223372036854775806) (u : Nat) (h : Lib.parseUintB 31 s.data.toList = .ok u) (w : World) :
    Calls P (ρ.f 14) #[.string s, .int .i64 10, .int .i64 31] w fun e w' => e = .returned (.tuple #[.int .u64 u, .nilIface]) ∧ Below w.heap.size w w' := by
  have mixed := L.mixed
  have t9 := L.t9; have a9 := L.a9; have z9 := L.z9; have v9 := L.v9
  have t3 := L.t3; have a3 := L.a3; have z3 := L.z3; have v3 := L.v3
  have t22 := L.t22; have a22 := L.a22; have z22 := L.z22; have v22 := L.v22
  have t24 := L.t24; have a24 := L.a24; have z24 := L.z24; have v24 := L.v24
  have t25 := L.t25; have a25 := L.a25; have z25 := L.z25; have v25 := L.v25
  have t4 := L.t4; have a4 := L.a4; have z4 := L.z4; have v4 := L.v4
  have e16 : ∀ args w, (callFunc (ρ.f 16) args).run P w = .ok (.enter (ρ.f 16) args) w := enters_of L.f16 (by kernel_rfl) rfl
  have hI : Calls P (ρ.f 16) #[.string s, .int .i64 10, .int .i64 31] w fun e w' => e = .returned (.tuple #[.int .u64 u, .nilIface]) ∧ Below w.heap.size w w' := by
    refine (at31 { L with } s hmax w).mono fun e w' ⟨he, hw⟩ => ⟨by rw [he, h]; rfl, ?_⟩
    rcases hw with rfl | rfl
    · exact Below.refl _ _
    · exact Lib.bytesWorld_below _ _ _
  clear h
  go_enter L.f14, BodyPu.n14_ntmps ρ
  go_wp2_with (go_at_fn (ρ.f 16); refine hI.mono ?_; rintro e W1 ⟨rfl, hW⟩)
  go_wp2
  go_ret2
  exact ⟨rfl, hW⟩

set_option maxHeartbeats 4000000 in
set_option maxRecDepth 100000 in
/-- Any other string. -/
theorem parse31_no (L : LaysPu.n14 P ρ) (s : ByteArray) (hlim : s.size ≤ 281474976710656) (h : ∀ u, Lib.parseUintB 31 s.data.toList ≠ .ok u) (te0 te1 : TypeId) (pe0 pe1 : Value) (w : World) (hv : w.cell? ⟨(ρ.g 0), 0, none⟩ = some (.iface te0 pe0)) (hr : w.cell? ⟨(ρ.g 1), 0, none⟩ = some (.iface te1 pe1)) :
    Calls P (ρ.f 14) #[.string s, .int .i64 10, .int .i64 31] w fun e w' => (∃ (x : Int) (tq : TypeId) (vq : Value), e = .returned (.tuple #[.int .u64 x, .iface tq vq]) ∧ 0 ≤ x ∧ x < 2147483648) ∧ Below w.heap.size w w' := by
  have mixed := L.mixed
  have t9 := L.t9; have a9 := L.a9; have z9 := L.z9; have v9 := L.v9
  have t3 := L.t3; have a3 := L.a3; have z3 := L.z3; have v3 := L.v3
  have t22 := L.t22; have a22 := L.a22; have z22 := L.z22; have v22 := L.v22
  have t24 := L.t24; have a24 := L.a24; have z24 := L.z24; have v24 := L.v24
  have t25 := L.t25; have a25 := L.a25; have z25 := L.z25; have v25 := L.v25
  have t4 := L.t4; have a4 := L.a4; have z4 := L.z4; have v4 := L.v4
  have e16 : ∀ args w, (callFunc (ρ.f 16) args).run P w = .ok (.enter (ρ.f 16) args) w := enters_of L.f16 (by kernel_rfl) rfl
  have e17 : ∀ args w, (callFunc (ρ.f 17) args).run P w = .ok (.enter (ρ.f 17) args) w := enters_of L.f17 (by kernel_rfl) rfl
  have hG0 : (ρ.g 0) < w.heap.size := Lib.lt_of_cell hv
  have hG1 : (ρ.g 1) < w.heap.size := Lib.lt_of_cell hr
  have hI := at31 { L with } s (by omega) w
  cases hp : Lib.parseUintB 31 s.data.toList with
  | ok u => exact absurd hp (h u)
  | range =>
    rw [hp] at hI
    have hI : Calls P (ρ.f 16) #[.string s, .int .i64 10, .int .i64 31] w fun e w' => e = .returned (.tuple #[.int .u64 2147483647, .iface (ρ.t 34) (.int .i64 1)]) ∧ (w' = w ∨ w' = Lib.bytesWorld w (ρ.t 5) s) := hI
    clear h hp
    go_enter L.f14, BodyPu.n14_ntmps ρ
    go_wp2_with (go_at_fn (ρ.f 16); refine hI.mono ?_)
    rintro e W1 ⟨rfl, hW⟩
    have hb1 : Below w.heap.size w W1 := by
      rcases hW with rfl | rfl
      · exact Below.refl _ _
      · exact Lib.bytesWorld_below _ _ _
    have hv1 : W1.cell? ⟨(ρ.g 1), 0, none⟩ = some (.iface te1 pe1) := (hb1.cell (show (⟨(ρ.g 1), 0, none⟩ : Addr).block < w.heap.size from hG1)).trans hr
    clear hW hv hr
    go_wp2_with (go_at_fn (ρ.f 17); refine (AnyPu.strconv_toError_range { L with } ⟨#[80, 97, 114, 115, 101, 85, 105, 110, 116]⟩ s 10 31 (.iface te1 pe1) _ hlim ?_ (Or.inr ⟨_, _, rfl⟩)).mono ?_)
    · exact hv1
    rintro e W2 ⟨N, rfl, h1, h2, h3⟩
    go_wp2
    go_ret2
    exact ⟨⟨_, _, _, rfl, by omega, by omega⟩, hb1.trans (h3.mono hb1.size)⟩
  | _ =>
    rw [hp] at hI
    have hI : Calls P (ρ.f 16) #[.string s, .int .i64 10, .int .i64 31] w fun e w' => e = .returned (.tuple #[.int .u64 0, .iface (ρ.t 34) (.int .i64 2)]) ∧ (w' = w ∨ w' = Lib.bytesWorld w (ρ.t 5) s) := hI
    clear h hp
    go_enter L.f14, BodyPu.n14_ntmps ρ
    go_wp2_with (go_at_fn (ρ.f 16); refine hI.mono ?_)
    rintro e W1 ⟨rfl, hW⟩
    have hb1 : Below w.heap.size w W1 := by
      rcases hW with rfl | rfl
      · exact Below.refl _ _
      · exact Lib.bytesWorld_below _ _ _
    have hv1 : W1.cell? ⟨(ρ.g 0), 0, none⟩ = some (.iface te0 pe0) := (hb1.cell (show (⟨(ρ.g 0), 0, none⟩ : Addr).block < w.heap.size from hG0)).trans hv
    clear hW hv hr
    go_wp2_with (go_at_fn (ρ.f 17); refine (AnyPu.strconv_toError_syntax { L with } ⟨#[80, 97, 114, 115, 101, 85, 105, 110, 116]⟩ s 10 31 (.iface te0 pe0) _ hlim ?_ (Or.inr ⟨_, _, rfl⟩)).mono ?_)
    · exact hv1
    rintro e W2 ⟨N, rfl, h1, h2, h3⟩
    go_wp2
    go_ret2
    exact ⟨⟨_, _, _, rfl, by omega, by omega⟩, hb1.trans (h3.mono hb1.size)⟩
end Go.Proofs.YtpmoepipoafegaaGreatDoor

/-
  The walk of routes.name, and of routes.number.
-/
namespace Go.Proofs.YtpmoepipoafegaaGreatDoor
open Go Go.RowKit Go.Lib Go.Sort

theorem name_bad {l : List UInt8} {i : Nat} {c : UInt8} (h : l[i]? = some c) (h1 : letB c = false) (h2 : i = 0 ∨ restB c = false) : nameB l = false := by
  cases l with
  | nil => rfl
  | cons b r =>
    cases hb : nameB (b :: r) with
    | false => rfl
    | true =>
      simp only [nameB, Bool.and_eq_true, List.all_eq_true, decide_eq_true_eq] at hb
      cases i with
      | zero =>
        simp only [List.getElem?_cons_zero, Option.some.injEq] at h
        subst h
        rw [h1] at hb
        exact absurd hb.1.2 (by decide)
      | succ i =>
        have hm := List.mem_of_getElem? (by simpa using h : r[i]? = some c)
        have := hb.2 c hm
        rcases h2 with h2 | h2
        · exact absurd h2 (by omega)
        · rw [h1, h2] at this
          exact absurd this (by decide)
theorem name_long {l : List UInt8} (h : 32 < l.length) : nameB l = false := by
  cases l with
  | nil => rfl
  | cons b r =>
    simp only [nameB]
    rw [decide_eq_false (by omega)]
    rfl
theorem name_good {l : List UInt8} (h0 : l ≠ []) (h1 : l.length ≤ 32) (h2 : ∀ (i : Nat) (c : UInt8), l[i]? = some c → letB c = true ∨ (i ≠ 0 ∧ restB c = true)) : nameB l = true := by
  cases l with
  | nil => exact absurd rfl h0
  | cons b r =>
    simp only [nameB, Bool.and_eq_true, List.all_eq_true, decide_eq_true_eq, Bool.or_eq_true]
    refine ⟨⟨h1, ?_⟩, fun x hx => ?_⟩
    · rcases h2 0 b rfl with h | h
      · exact h
      · exact absurd rfl h.1
    · obtain ⟨i, hi⟩ := List.getElem?_of_mem hx
      rcases h2 (i + 1) x (by simpa using hi) with h | h
      · exact Or.inl h
      · exact Or.inr h.2
set_option maxRecDepth 100000 in
/-- The four signs, as the program looks for them. -/
theorem dots (c : UInt8) : Lib.contains [45, 95, 46, 47] (Utf8.encode (c.toNat : Int)).data.toList = (decide (c.toNat = 45) || decide (c.toNat = 95) || decide (c.toNat = 46) || decide (c.toNat = 47)) := by
  have h : (List.range 256).all (fun n => Lib.contains [45, 95, 46, 47] (Utf8.encode (n : Int)).data.toList == (decide (n = 45) || decide (n = 95) || decide (n = 46) || decide (n = 47))) = true := by kernel_rfl
  exact beq_iff_eq.1 (List.all_eq_true.1 h c.toNat (List.mem_range.2 c.toNat_lt))
theorem letB_yes1 {c : UInt8} (h0 : 97 ≤ c.toNat) (h1 : c.toNat ≤ 122) : letB c = true := by simp [letB, h0, h1]
theorem letB_yes2 {c : UInt8} (h0 : 65 ≤ c.toNat) (h1 : c.toNat ≤ 90) : letB c = true := by simp [letB, h0, h1]
theorem letB_no {c : UInt8} (h0 : ¬ (97 ≤ c.toNat ∧ c.toNat ≤ 122)) (h1 : ¬ (65 ≤ c.toNat ∧ c.toNat ≤ 90)) : letB c = false := by
  simp only [letB, Bool.or_eq_false_iff, Bool.and_eq_false_iff, decide_eq_false_iff_not]
  omega
theorem restB_dig {c : UInt8} (h0 : 48 ≤ c.toNat) (h1 : c.toNat ≤ 57) : restB c = true := by simp [restB, h0, h1]
theorem restB_dot {c : UInt8} (h0 : ¬ (48 ≤ c.toNat ∧ c.toNat ≤ 57)) : restB c = (decide (c.toNat = 45) || decide (c.toNat = 95) || decide (c.toNat = 46) || decide (c.toNat = 47)) := by
  have : (decide (48 ≤ c.toNat) && decide (c.toNat ≤ 57)) = false := by
    simp only [Bool.and_eq_false_iff, decide_eq_false_iff_not]; omega
  rw [restB, this, Bool.false_or]
theorem belowBytes (w : World) (e : TypeId) (s : ByteArray) : Below w.heap.size w (Go.Lib.bytesWorld w e s) := ⟨rfl, rfl, rfl, by rw [Go.Lib.bytesWorld_size]; omega, fun k hk => Go.Lib.bytesWorld_at_old w e s k hk⟩

set_option maxRecDepth 100000 in
set_option maxHeartbeats 8000000 in
theorem name_any (l : List UInt8) : NameC l := by
  intro w hE
  obtain ⟨m, hm⟩ := hE.len
  by_cases h0 : l = []
  · subst h0
    go_enter Tryz.func18, Tryz.ntmps18
    go_wp2
    go_ret
    exact ⟨rfl, Below.refl _ _⟩
  have hsz : (⟨l.toArray⟩ : ByteArray).size = l.length := by show l.toArray.size = _; simp
  have hemp : ((⟨l.toArray⟩ : ByteArray).toList.isEmpty) = false := by
    rw [← decide_eq_emptyBytes]
    exact decide_eq_false (fun h => h0 (by have := congrArg (·.data.toList) h; simpa using this))
  by_cases h32 : 32 < l.length
  · have hI : ((⟨l.toArray⟩ : ByteArray).size : Int) > 32 := by omega
    have hn := Lib.hid (name_long h32)
    go_enter Tryz.func18, Tryz.ntmps18
    go_wp2
    go_ret
    exact ⟨by rw [hn.out]; rfl, Below.refl _ _⟩
  have hI : ¬ ((⟨l.toArray⟩ : ByteArray).size : Int) > 32 := by omega
  have hcv := Go.Lib.run_convert_string_bytes (P := Tryz.prog) w 9 75 5 ⟨l.toArray⟩ Tryz.underlying9 Tryz.underlying75 Tryz.underlying5
  have hc : ∀ (j : Nat) (c : UInt8), l[j]? = some c → (Go.Lib.bytesWorld w 5 ⟨l.toArray⟩).cell? ⟨w.heap.size, j, none⟩ = some (.int .u8 c.toNat) := fun j c hj => by
    have h1 := Go.Lib.bytesWorld_cell w 5 ⟨l.toArray⟩ j (by rw [hsz]; exact (List.getElem?_eq_some_iff.1 hj).1)
    rw [List.getD_eq_getElem?_getD] at h1
    simp only [hj, Option.getD_some] at h1
    exact h1
  have hb := belowBytes w 5 ⟨l.toArray⟩
  have hmW := cell_kept hb hm
  have HC := Lib.hid hc
  clear hc hm
  generalize Go.Lib.bytesWorld w 5 ⟨l.toArray⟩ = W at *
  generalize grownCap w (⟨l.toArray⟩ : ByteArray).size 0 5 = gc at *
  generalize (⟨l.toArray⟩ : ByteArray) = s at *
  go_enter Tryz.func18, Tryz.ntmps18
  go_wp2
  go_loop [3, 4, 5, 16] (fun _ _ _ v => ∃ k : Nat, v = .int .i64 k ∧ k ≤ l.length ∧ Hid (∀ (i : Nat) (c : UInt8), i < k → l[i]? = some c → letB c = true ∨ (i ≠ 0 ∧ restB c = true))) (fun _ _ _ v => l.length - (intOf v).toNat)
  case atStart => exact ⟨0, rfl, by omega, fun i c hi => absurd hi (by omega)⟩
  case round =>
    obtain ⟨k, rfl, hk, hok⟩ := hrel
    by_cases hlt : k < l.length
    · have hI : (k : Int) < (s.size : Int) := by omega
      have hk2 : k < s.size := by omega
      obtain ⟨c, hget⟩ : ∃ c, l[k]? = some c := ⟨_, List.getElem?_eq_getElem hlt⟩
      have hcell := HC.out k c hget
      have HG := Lib.hid hget
      have hnext : ∀ k' : Nat, k' = k + 1 → (letB c = true ∨ (k ≠ 0 ∧ restB c = true)) → Hid (∀ (i : Nat) (c : UInt8), i < k' → l[i]? = some c → letB c = true ∨ (i ≠ 0 ∧ restB c = true)) := by
        rintro _ rfl h i d hi hd
        by_cases hik : i = k
        · subst hik
          rw [HG.out] at hd
          injection hd with hd
          rw [← hd]; exact h
        · exact hok.out i d (by omega) hd
      have HN := Lib.hid hnext
      have HD := Lib.hid (dots c)
      clear hnext hget hok
      have hcls : ((97 : Int) ≤ (c.toNat : Int) ∧ (c.toNat : Int) ≤ (122 : Int)) ∨ (¬ (97 : Int) ≤ (c.toNat : Int) ∧ (65 : Int) ≤ (c.toNat : Int) ∧ (c.toNat : Int) ≤ (90 : Int)) ∨ (¬ (97 : Int) ≤ (c.toNat : Int) ∧ ¬ (65 : Int) ≤ (c.toNat : Int) ∧ ¬ (48 : Int) ≤ (c.toNat : Int)) ∨ (¬ (97 : Int) ≤ (c.toNat : Int) ∧ ¬ (65 : Int) ≤ (c.toNat : Int) ∧ (48 : Int) ≤ (c.toNat : Int) ∧ (c.toNat : Int) ≤ (57 : Int)) ∨ (¬ (97 : Int) ≤ (c.toNat : Int) ∧ ¬ (65 : Int) ≤ (c.toNat : Int) ∧ (48 : Int) ≤ (c.toNat : Int) ∧ ¬ (c.toNat : Int) ≤ (57 : Int)) ∨ (¬ (97 : Int) ≤ (c.toNat : Int) ∧ (65 : Int) ≤ (c.toNat : Int) ∧ ¬ (c.toNat : Int) ≤ (90 : Int) ∧ (48 : Int) ≤ (c.toNat : Int) ∧ ¬ (c.toNat : Int) ≤ (57 : Int)) ∨ ((97 : Int) ≤ (c.toNat : Int) ∧ ¬ (c.toNat : Int) ≤ (122 : Int) ∧ (65 : Int) ≤ (c.toNat : Int) ∧ ¬ (c.toNat : Int) ≤ (90 : Int) ∧ (48 : Int) ≤ (c.toNat : Int) ∧ ¬ (c.toNat : Int) ≤ (57 : Int)) := by omega
      have hkc : k = 0 ∨ ¬ (k : Int) = 0 := by omega
      rcases hcls with ⟨q0, q1⟩ | ⟨q0, q1, q2⟩ | ⟨q0, q1, q2⟩ | ⟨q0, q1, q2, q3⟩ | ⟨q0, q1, q2, q3⟩ | ⟨q0, q1, q2, q3, q4⟩ | ⟨q0, q1, q2, q3, q4, q5⟩
      · have HR := Lib.hid (HN.out _ rfl (Or.inl (letB_yes1 (by omega) (by omega))))
        clear HN HD
        go_wp2
        exact ⟨⟨k + 1, by go_num, by omega, HR.out⟩, by simp only [intOf]; omega⟩
      · have HR := Lib.hid (HN.out _ rfl (Or.inl (letB_yes2 (by omega) (by omega))))
        clear HN HD
        go_wp2
        exact ⟨⟨k + 1, by go_num, by omega, HR.out⟩, by simp only [intOf]; omega⟩
      · have hno := letB_no (c := c) (by omega) (by omega)
        rcases hkc with rfl | hk0
        · have hn := Lib.hid (name_bad HG.out hno (Or.inl rfl))
          clear HN HD hno
          go_wp2
          go_ret
          exact ⟨by rw [hn.out]; rfl, hb⟩
        · have hd := restB_dot (c := c) (by omega)
          rw [← HD.out] at hd
          have hC := Tryz.strings_Contains ⟨#[45, 95, 46, 47]⟩ (Utf8.encode (c.toNat : Int)) m W (by decide) hmW
          cases hr : restB c with
          | true =>
            have HR := Lib.hid (HN.out _ rfl (Or.inr ⟨by omega, hr⟩))
            rw [hr] at hd
            have hC2 : Calls Tryz.prog 50 #[.string ⟨#[45, 95, 46, 47]⟩, .string (Utf8.encode (c.toNat : Int))] W fun e w' => e = .returned (.bool true) ∧ w' = W := hC.mono fun e w' h => ⟨by rw [h.1]; exact congrArg (fun b => Ending.returned (.bool b)) hd.symm, h.2⟩
            have HC2 := Lib.hid hC2
            clear HN HD hno hd hr hC hC2
            go_wp2_with (go_at_call 50; refine HC2.out.mono ?_; rintro e w' ⟨rfl, rfl⟩)
            exact ⟨⟨k + 1, by go_num, by omega, HR.out⟩, by simp only [intOf]; omega⟩
          | false =>
            have hn := Lib.hid (name_bad HG.out hno (Or.inr hr))
            rw [hr] at hd
            have hC2 : Calls Tryz.prog 50 #[.string ⟨#[45, 95, 46, 47]⟩, .string (Utf8.encode (c.toNat : Int))] W fun e w' => e = .returned (.bool false) ∧ w' = W := hC.mono fun e w' h => ⟨by rw [h.1]; exact congrArg (fun b => Ending.returned (.bool b)) hd.symm, h.2⟩
            have HC2 := Lib.hid hC2
            clear HN HD hno hd hr hC hC2
            go_wp2_with (go_at_call 50; refine HC2.out.mono ?_; rintro e w' ⟨rfl, rfl⟩)
            go_ret
            exact ⟨by rw [hn.out]; rfl, hb⟩
      · have hno := letB_no (c := c) (by omega) (by omega)
        rcases hkc with rfl | hk0
        · have hn := Lib.hid (name_bad HG.out hno (Or.inl rfl))
          clear HN HD hno
          go_wp2
          go_ret
          exact ⟨by rw [hn.out]; rfl, hb⟩
        · have HR := Lib.hid (HN.out _ rfl (Or.inr ⟨by omega, restB_dig (by omega) (by omega)⟩))
          clear HN HD hno
          go_wp2
          exact ⟨⟨k + 1, by go_num, by omega, HR.out⟩, by simp only [intOf]; omega⟩
      · have hno := letB_no (c := c) (by omega) (by omega)
        rcases hkc with rfl | hk0
        · have hn := Lib.hid (name_bad HG.out hno (Or.inl rfl))
          clear HN HD hno
          go_wp2
          go_ret
          exact ⟨by rw [hn.out]; rfl, hb⟩
        · have hd := restB_dot (c := c) (by omega)
          rw [← HD.out] at hd
          have hC := Tryz.strings_Contains ⟨#[45, 95, 46, 47]⟩ (Utf8.encode (c.toNat : Int)) m W (by decide) hmW
          cases hr : restB c with
          | true =>
            have HR := Lib.hid (HN.out _ rfl (Or.inr ⟨by omega, hr⟩))
            rw [hr] at hd
            have hC2 : Calls Tryz.prog 50 #[.string ⟨#[45, 95, 46, 47]⟩, .string (Utf8.encode (c.toNat : Int))] W fun e w' => e = .returned (.bool true) ∧ w' = W := hC.mono fun e w' h => ⟨by rw [h.1]; exact congrArg (fun b => Ending.returned (.bool b)) hd.symm, h.2⟩
            have HC2 := Lib.hid hC2
            clear HN HD hno hd hr hC hC2
            go_wp2_with (go_at_call 50; refine HC2.out.mono ?_; rintro e w' ⟨rfl, rfl⟩)
            exact ⟨⟨k + 1, by go_num, by omega, HR.out⟩, by simp only [intOf]; omega⟩
          | false =>
            have hn := Lib.hid (name_bad HG.out hno (Or.inr hr))
            rw [hr] at hd
            have hC2 : Calls Tryz.prog 50 #[.string ⟨#[45, 95, 46, 47]⟩, .string (Utf8.encode (c.toNat : Int))] W fun e w' => e = .returned (.bool false) ∧ w' = W := hC.mono fun e w' h => ⟨by rw [h.1]; exact congrArg (fun b => Ending.returned (.bool b)) hd.symm, h.2⟩
            have HC2 := Lib.hid hC2
            clear HN HD hno hd hr hC hC2
            go_wp2_with (go_at_call 50; refine HC2.out.mono ?_; rintro e w' ⟨rfl, rfl⟩)
            go_ret
            exact ⟨by rw [hn.out]; rfl, hb⟩
      · have hno := letB_no (c := c) (by omega) (by omega)
        rcases hkc with rfl | hk0
        · have hn := Lib.hid (name_bad HG.out hno (Or.inl rfl))
          clear HN HD hno
          go_wp2
          go_ret
          exact ⟨by rw [hn.out]; rfl, hb⟩
        · have hd := restB_dot (c := c) (by omega)
          rw [← HD.out] at hd
          have hC := Tryz.strings_Contains ⟨#[45, 95, 46, 47]⟩ (Utf8.encode (c.toNat : Int)) m W (by decide) hmW
          cases hr : restB c with
          | true =>
            have HR := Lib.hid (HN.out _ rfl (Or.inr ⟨by omega, hr⟩))
            rw [hr] at hd
            have hC2 : Calls Tryz.prog 50 #[.string ⟨#[45, 95, 46, 47]⟩, .string (Utf8.encode (c.toNat : Int))] W fun e w' => e = .returned (.bool true) ∧ w' = W := hC.mono fun e w' h => ⟨by rw [h.1]; exact congrArg (fun b => Ending.returned (.bool b)) hd.symm, h.2⟩
            have HC2 := Lib.hid hC2
            clear HN HD hno hd hr hC hC2
            go_wp2_with (go_at_call 50; refine HC2.out.mono ?_; rintro e w' ⟨rfl, rfl⟩)
            exact ⟨⟨k + 1, by go_num, by omega, HR.out⟩, by simp only [intOf]; omega⟩
          | false =>
            have hn := Lib.hid (name_bad HG.out hno (Or.inr hr))
            rw [hr] at hd
            have hC2 : Calls Tryz.prog 50 #[.string ⟨#[45, 95, 46, 47]⟩, .string (Utf8.encode (c.toNat : Int))] W fun e w' => e = .returned (.bool false) ∧ w' = W := hC.mono fun e w' h => ⟨by rw [h.1]; exact congrArg (fun b => Ending.returned (.bool b)) hd.symm, h.2⟩
            have HC2 := Lib.hid hC2
            clear HN HD hno hd hr hC hC2
            go_wp2_with (go_at_call 50; refine HC2.out.mono ?_; rintro e w' ⟨rfl, rfl⟩)
            go_ret
            exact ⟨by rw [hn.out]; rfl, hb⟩
      · have hno := letB_no (c := c) (by omega) (by omega)
        rcases hkc with rfl | hk0
        · have hn := Lib.hid (name_bad HG.out hno (Or.inl rfl))
          clear HN HD hno
          go_wp2
          go_ret
          exact ⟨by rw [hn.out]; rfl, hb⟩
        · have hd := restB_dot (c := c) (by omega)
          rw [← HD.out] at hd
          have hC := Tryz.strings_Contains ⟨#[45, 95, 46, 47]⟩ (Utf8.encode (c.toNat : Int)) m W (by decide) hmW
          cases hr : restB c with
          | true =>
            have HR := Lib.hid (HN.out _ rfl (Or.inr ⟨by omega, hr⟩))
            rw [hr] at hd
            have hC2 : Calls Tryz.prog 50 #[.string ⟨#[45, 95, 46, 47]⟩, .string (Utf8.encode (c.toNat : Int))] W fun e w' => e = .returned (.bool true) ∧ w' = W := hC.mono fun e w' h => ⟨by rw [h.1]; exact congrArg (fun b => Ending.returned (.bool b)) hd.symm, h.2⟩
            have HC2 := Lib.hid hC2
            clear HN HD hno hd hr hC hC2
            go_wp2_with (go_at_call 50; refine HC2.out.mono ?_; rintro e w' ⟨rfl, rfl⟩)
            exact ⟨⟨k + 1, by go_num, by omega, HR.out⟩, by simp only [intOf]; omega⟩
          | false =>
            have hn := Lib.hid (name_bad HG.out hno (Or.inr hr))
            rw [hr] at hd
            have hC2 : Calls Tryz.prog 50 #[.string ⟨#[45, 95, 46, 47]⟩, .string (Utf8.encode (c.toNat : Int))] W fun e w' => e = .returned (.bool false) ∧ w' = W := hC.mono fun e w' h => ⟨by rw [h.1]; exact congrArg (fun b => Ending.returned (.bool b)) hd.symm, h.2⟩
            have HC2 := Lib.hid hC2
            clear HN HD hno hd hr hC hC2
            go_wp2_with (go_at_call 50; refine HC2.out.mono ?_; rintro e w' ⟨rfl, rfl⟩)
            go_ret
            exact ⟨by rw [hn.out]; rfl, hb⟩
    · have hI : ¬ (k : Int) < (s.size : Int) := by omega
      have hn := Lib.hid (name_good h0 (by omega) (fun i c hi => hok.out i c (by have := (List.getElem?_eq_some_iff.1 hi).1; omega) hi))
      go_wp2
      go_ret
      exact ⟨by rw [hn.out]; rfl, hb⟩
end Go.Proofs.YtpmoepipoafegaaGreatDoor

/-
  The route that the document reads of a text's words: plain laws; no walk.
-/
namespace Go.Proofs.YtpmoepipoafegaaGreatDoor
open Go Go.RowKit Go.Sort

/-- The document's number of a word: digits, at most eleven. -/
def num08 (w : List UInt8) : Int := if w = [] ∨ w.all isDig = false ∨ 11 < w.length then -1 else (valD 0 w : Nat)
theorem num08_bad {l : List UInt8} {i : Nat} {c : UInt8} (h : l[i]? = some c) (hc : isDig c = false) : num08 l = -1 := by
  unfold num08
  rw [if_pos (Or.inr (Or.inl ?_))]
  cases e : l.all isDig with
  | false => rfl
  | true => have := List.all_eq_true.1 e c (List.mem_of_getElem? h); rw [hc] at this; cases this
theorem num08_long {l : List UInt8} (h : 11 < l.length) : num08 l = -1 := by unfold num08; rw [if_pos (Or.inr (Or.inr h))]
theorem num08_nil : num08 [] = -1 := rfl
theorem num08_good {l : List UInt8} (h0 : l ≠ []) (h1 : l.all isDig = true) (h2 : ¬ 11 < l.length) : num08 l = (valD 0 l : Nat) := by
  unfold num08
  rw [if_neg]
  rintro (h | h | h)
  · exact h0 h
  · rw [h1] at h; cases h
  · exact h2 h
theorem num08_dec {n : Int} (h0 : 0 ≤ n) (h1 : n ≤ 2147483647) : num08 (Lib.decDigits n.toNat) = n := by
  rw [num08_good (decDigits_ne_nil _) (decDigits_all _), decDigits_val]
  · omega
  · intro h
    have := dec_long 9 n.toNat (by omega)
    omega
theorem num08_lt (w : List UInt8) : -1 ≤ num08 w ∧ num08 w < 100000000000 := by
  unfold num08
  split
  · omega
  · rename_i h
    have h1 : w.all isDig = true := by
      cases e : w.all isDig with
      | true => rfl
      | false => exact absurd (Or.inr (Or.inl e)) h
    have h2 : ¬ 11 < w.length := fun e => h (Or.inr (Or.inr e))
    have := valD_lt 11 w (by omega) h1
    omega
/-- What the document reads of the words behind the first five. -/
def scanD : Bool → List (List UInt8) → Int × List UInt8 × Bool → Int × List UInt8 × Bool
  | _, [], st => st
  | _, [x], st => if x = discW then (st.1, st.2.1, true) else st
  | b, x :: y :: t, st => if x = viaW ∧ b = true then scanD false t (adV (parseB y), st.2) else if x = onW then scanD false t (st.1, y, st.2.2) else if x = discW then scanD false (y :: t) (st.1, st.2.1, true) else scanD false (y :: t) st
def restD (w : List (List UInt8)) : Int × List UInt8 × Bool := scanD true w (0, [], false)
theorem scanD_lt : ∀ (b : Bool) (w : List (List UInt8)) (st : Int × List UInt8 × Bool), 0 ≤ st.1 ∧ st.1 < 4294967296 → 0 ≤ (scanD b w st).1 ∧ (scanD b w st).1 < 4294967296
  | _, [], st, h => h
  | _, [x], st, h => by unfold scanD; split <;> exact h
  | b, x :: y :: t, st, h => by
    rw [scanD]
    split
    · exact scanD_lt _ _ _ (adV_lt y)
    · split
      · exact scanD_lt _ _ _ h
      · split
        · exact scanD_lt _ _ _ h
        · exact scanD_lt _ _ _ h
theorem restD_lt (w : List (List UInt8)) : 0 ≤ (restD w).1 ∧ (restD w).1 < 4294967296 := scanD_lt _ _ _ (by simp)
theorem restD_words {r : RtV} (h : r.ok = true) : restD (r.hopW ++ (r.nmW ++ r.dcW)) = (r.ho, r.nm, r.dc) := by
  obtain ⟨_, _, _, _, _, _, h7, h8⟩ := rt_ok h
  have hh := r.hho
  have e := adV_text hh.1 hh.2
  have k1 : onW ≠ viaW := by decide
  have k2 : discW ≠ viaW := by decide
  have k3 : discW ≠ onW := by decide
  unfold RtV.hopW RtV.nmW RtV.dcW
  by_cases h0 : r.ho = 0 <;> by_cases hn : r.nm = [] <;> cases hd : r.dc <;> simp_all [restD, scanD]
/-- The route that the document reads of the words. -/
def candQ (w0 w1 w2 w3 w4 : List UInt8) (rest : List (List UInt8)) : RtV where
  a := ppA w0
  m := ppN w0
  fr := fromI w1
  di := num08 w2
  me := num08 w3
  ta := num08 w4
  nm := (restD rest).2.1
  ho := (restD rest).1
  dc := (restD rest).2.2
  ha := ppA_lt w0
  hm := by have := ppN_range w0; omega
  hfr := by have := fromI_lt w1; omega
  hdi := by have := num08_lt w2; omega
  hme := by have := num08_lt w3; omega
  hta := by have := num08_lt w4; omega
  hho := restD_lt rest
theorem candQ_words {r : RtV} (h : r.ok = true) : candQ (prefT r.a r.m) (fromW r.fr) (Lib.decDigits r.di.toNat) (Lib.decDigits r.me.toNat) (Lib.decDigits r.ta.toNat) (r.hopW ++ (r.nmW ++ r.dcW)) = r := by
  obtain ⟨h1, h2, h3, h4, h5, h6, h7, h8⟩ := rt_ok h
  have a1 := ppO_T r.ha.1 r.ha.2 h1
  have a2 := restD_words h
  refine rt_ext a1.1 a1.2.1 (fromI_W h2 h3) (num08_dec h4.1 h4.2) (num08_dec h5.1 h5.2) (num08_dec h6.1 h6.2) ?_ ?_ ?_
  · show (restD _).2.1 = _; rw [a2]
  · show (restD _).1 = _; rw [a2]
  · show (restD _).2.2 = _; rw [a2]
theorem roO_candQ {l w0 w1 w2 w3 w4 : List UInt8} {rest : List (List UInt8)} (hp : pieces 32 l = w0 :: w1 :: w2 :: w3 :: w4 :: rest) :
    roO l = if ppE w0 = 0 ∧ (candQ w0 w1 w2 w3 w4 rest).ok = true ∧ (candQ w0 w1 w2 w3 w4 rest).text = l then some (candQ w0 w1 w2 w3 w4 rest) else none := by
  split
  · rename_i h
    have e := roO_text h.2.1
    rw [h.2.2] at e
    exact e
  · rename_i h
    refine roO_no fun r hr ht => h ?_
    have w := rt_words hr
    rw [ht, hp] at w
    unfold RtV.words at w
    simp only [List.cons_append, List.nil_append] at w
    injection w with w0 w
    injection w with w1 w
    injection w with w2 w
    injection w with w3 w
    injection w with w4 w
    subst w0 w1 w2 w3 w4 w
    rw [candQ_words hr]
    exact ⟨rt_five hr, hr, ht⟩
end Go.Proofs.YtpmoepipoafegaaGreatDoor

/-
  The text of an advert, and the advert of a text: plain laws; no walk.
-/
namespace Go.Proofs.YtpmoepipoafegaaGreatDoor
open Go Go.RowKit Go.Sort

/-- A list of numbers below 2^32. -/
def u32s (l : List Int) : Prop := ∀ x ∈ l, 0 ≤ x ∧ x < 4294967296
/-- An advert. -/
structure AvV where
  a : Int
  m : Int
  ss : Int
  pf : Int
  me : Int
  ho : Int
  pe : Int
  id : Int
  ex : Bool
  og : Int
  pa : List Int
  co : List Int
  cl : List Int
  ha : 0 ≤ a ∧ a < 4294967296
  hm : -9223372036854775808 ≤ m ∧ m ≤ 9223372036854775807
  hss : -9223372036854775808 ≤ ss ∧ ss ≤ 9223372036854775807
  hpf : -9223372036854775808 ≤ pf ∧ pf ≤ 9223372036854775807
  hme : -9223372036854775808 ≤ me ∧ me ≤ 9223372036854775807
  hho : 0 ≤ ho ∧ ho < 4294967296
  hpe : 0 ≤ pe ∧ pe < 4294967296
  hid : 0 ≤ id ∧ id < 4294967296
  hog : 0 ≤ og ∧ og < 4294967296
  hpa : u32s pa
  hco : u32s co
  hcl : u32s cl
theorem u32s_nil : u32s [] := fun _ h => by cases h
instance : Inhabited AvV := ⟨⟨0, 0, 0, 0, 0, 0, 0, 0, false, 0, [], [], [], by omega, by omega, by omega, by omega, by omega, by omega, by omega, by omega, by omega, u32s_nil, u32s_nil, u32s_nil⟩⟩
def prefW : List UInt8 := [112, 114, 101, 102]
def metrW : List UInt8 := [109, 101, 116, 114, 105, 99]
def peerW : List UInt8 := [112, 101, 101, 114]
def idW : List UInt8 := [105, 100]
def extW : List UInt8 := [101, 120, 116, 101, 114, 110, 97, 108]
def intW : List UInt8 := [105, 110, 116, 101, 114, 110, 97, 108]
def origW : List UInt8 := [111, 114, 105, 103, 105, 110]
def sessW : List UInt8 := [115, 101, 115, 115, 105, 111, 110]
def pathW : List UInt8 := [112, 97, 116, 104]
def commW : List UInt8 := [99, 111, 109, 109]
def clusW : List UInt8 := [99, 108, 117, 115, 116, 101, 114, 115]
def oneW : List UInt8 := [45, 49]
def sideT (b : Bool) : List UInt8 := if b then extW else intW
def sessT (n : Int) : List UInt8 := if n = -1 then oneW else Lib.decDigits n.toNat
def decT (n : Int) : List UInt8 := Lib.decDigits n.toNat
def addrT (n : Int) : List UInt8 := (textA n.toNat).data.toList
/-- May the advert be written? -/
def AvV.ok (r : AvV) : Bool := decide (chk r.a r.m = 0) && fineB r.pf && fineB r.me && (decide (r.ss = -1) || fineB r.ss)
def AvV.head (r : AvV) : List (List UInt8) := [prefT r.a r.m, viaW, addrT r.ho, prefW, decT r.pf, metrW, decT r.me, peerW, addrT r.pe, idW, addrT r.id, sideT r.ex, origW, addrT r.og, sessW, sessT r.ss, pathW]
def AvV.tail (r : AvV) : List (List UInt8) := r.pa.map decT ++ commW :: (r.co.map decT ++ clusW :: r.cl.map addrT)
def AvV.words (r : AvV) : List (List UInt8) := r.head ++ r.tail
def AvV.text (r : AvV) : List UInt8 := Lib.join r.words [32]
theorem av_ok {r : AvV} (h : r.ok = true) : chk r.a r.m = 0 ∧ (0 ≤ r.pf ∧ r.pf ≤ 2147483647) ∧ (0 ≤ r.me ∧ r.me ≤ 2147483647) ∧ (r.ss = -1 ∨ (0 ≤ r.ss ∧ r.ss ≤ 2147483647)) := by
  simp only [AvV.ok, Bool.and_eq_true, decide_eq_true_eq, fine_iff, Bool.or_eq_true] at h
  obtain ⟨⟨⟨h1, h2⟩, h3⟩, h4⟩ := h
  exact ⟨h1, h2, h3, h4⟩
theorem decT_no (n : Int) : (32 : UInt8) ∉ decT n := not_dec (by decide) _
theorem addrT_no (n : Int) : (32 : UInt8) ∉ addrT n := not_text (by decide) (by decide) _
theorem sideT_no (b : Bool) : (32 : UInt8) ∉ sideT b := by cases b <;> decide
theorem sessT_no (n : Int) : (32 : UInt8) ∉ sessT n := by
  unfold sessT
  split
  · decide
  · exact not_dec (by decide) _
theorem av_words_no {r : AvV} (h : r.ok = true) : ∀ x ∈ r.words, (32 : UInt8) ∉ x := by
  obtain ⟨h1, h2, h3, h4⟩ := av_ok h
  have k1 := chk_ok h1
  intro x hx
  simp only [AvV.words, AvV.head, AvV.tail, List.mem_append, List.mem_cons, List.not_mem_nil, or_false, List.mem_map] at hx
  rcases hx with (rfl | rfl | rfl | rfl | rfl | rfl | rfl | rfl | rfl | rfl | rfl | rfl | rfl | rfl | rfl | rfl | rfl) | ⟨n, _, rfl⟩ | rfl | ⟨n, _, rfl⟩ | rfl | ⟨n, _, rfl⟩
  all_goals first | exact prefT_no k1.1 | exact addrT_no _ | exact decT_no _ | exact sideT_no _ | exact sessT_no _ | decide
theorem av_words {r : AvV} (h : r.ok = true) : pieces 32 r.text = r.words := pieces_joinL 32 _ (by simp [AvV.words, AvV.head]) (av_words_no h)
theorem av_ext {r q : AvV} (h0 : r.a = q.a) (h1 : r.m = q.m) (h2 : r.ss = q.ss) (h3 : r.pf = q.pf) (h4 : r.me = q.me) (h5 : r.ho = q.ho) (h6 : r.pe = q.pe) (h7 : r.id = q.id) (h8 : r.ex = q.ex) (h9 : r.og = q.og) (h10 : r.pa = q.pa) (h11 : r.co = q.co) (h12 : r.cl = q.cl) : r = q := by
  cases r; cases q; simp_all
theorem decT_inj {m n : Int} (h0 : 0 ≤ m) (h1 : 0 ≤ n) (h : decT m = decT n) : m = n := by
  have := decDigits_inj h
  omega
theorem addrT_inj {m n : Int} (h0 : 0 ≤ m ∧ m < 4294967296) (h1 : 0 ≤ n ∧ n < 4294967296) (h : addrT m = addrT n) : m = n := by
  have e1 := adV_text h0.1 h0.2
  have e2 := adV_text h1.1 h1.2
  unfold addrT at h
  rw [h, e2] at e1
  exact e1.symm
/-- A number that a word is read to: any, if it is the text of none. -/
def NumRel (w : List UInt8) (x : Int) : Prop := ∀ n : Int, 0 ≤ n → n < 4294967296 → w = decT n → x = n
def AddrRel (w : List UInt8) (x : Int) : Prop := ∀ n : Int, 0 ≤ n → n < 4294967296 → w = addrT n → x = n
/-- The numbers that words are read to. -/
def ListRel (R : List UInt8 → Int → Prop) (ws : List (List UInt8)) (l : List Int) : Prop := ws.length = l.length ∧ ∀ (i : Nat) (w : List UInt8) (x : Int), ws[i]? = some w → l[i]? = some x → R w x
theorem listRel_nil (R) : ListRel R [] [] := ⟨rfl, fun i w x h => by simp at h⟩
theorem listRel_snoc {R} {ws : List (List UInt8)} {l : List Int} {w : List UInt8} {x : Int} (h : ListRel R ws l) (hx : R w x) : ListRel R (ws ++ [w]) (l ++ [x]) := by
  refine ⟨by simp [h.1], fun i w' x' hw hx' => ?_⟩
  by_cases hi : i < ws.length
  · rw [List.getElem?_append_left hi] at hw
    rw [List.getElem?_append_left (by have := h.1; omega)] at hx'
    exact h.2 i w' x' hw hx'
  · rw [List.getElem?_append_right (by omega)] at hw
    rw [List.getElem?_append_right (by have := h.1; omega)] at hx'
    have e1 : i - ws.length = 0 := by
      have := (List.getElem?_eq_some_iff.1 hw).1
      simp at this
      omega
    have e2 : i - l.length = 0 := by have := h.1; omega
    rw [e1] at hw
    rw [e2] at hx'
    simp at hw hx'
    rw [← hw, ← hx']
    exact hx
theorem listRel_dec {l q : List Int} (h : ListRel NumRel (q.map decT) l) (hq : u32s q) : l = q := by
  apply List.ext_getElem?
  intro i
  have hl := h.1
  rw [List.length_map] at hl
  by_cases hi : i < q.length
  · have a := List.getElem?_eq_getElem hi
    have b := List.getElem?_eq_getElem (l := l) (i := i) (by omega)
    have hm := hq _ (List.mem_of_getElem? a)
    have := h.2 i (decT q[i]) l[i] (by rw [List.getElem?_map, a]; rfl) b _ hm.1 hm.2 rfl
    rw [a, b, this]
  · rw [List.getElem?_eq_none (by omega), List.getElem?_eq_none (by omega)]
theorem listRel_addr {l q : List Int} (h : ListRel AddrRel (q.map addrT) l) (hq : u32s q) : l = q := by
  apply List.ext_getElem?
  intro i
  have hl := h.1
  rw [List.length_map] at hl
  by_cases hi : i < q.length
  · have a := List.getElem?_eq_getElem hi
    have b := List.getElem?_eq_getElem (l := l) (i := i) (by omega)
    have hm := hq _ (List.mem_of_getElem? a)
    have := h.2 i (addrT q[i]) l[i] (by rw [List.getElem?_map, a]; rfl) b _ hm.1 hm.2 rfl
    rw [a, b, this]
  · rw [List.getElem?_eq_none (by omega), List.getElem?_eq_none (by omega)]
theorem addrRel_adV (w : List UInt8) : AddrRel w (adV (parseB w)) := fun n h0 h1 e => by rw [e]; exact adV_text h0 h1
theorem numRel_uint {w : List UInt8} {x : Int} (h : ∀ n : Nat, Lib.parseUintB 32 w = .ok n → x = n) : NumRel w x := fun n h0 h1 e => by
  have := h n.toNat (by rw [e]; exact uint32_digits (by omega))
  omega
theorem numRel_num08 (w : List UInt8) : NumRel w (num08 w % 4294967296) := fun n h0 h1 e => by
  have hv : num08 w = n := by
    rw [e]
    unfold decT
    rw [num08_good (decDigits_ne_nil _) (decDigits_all _), decDigits_val]
    · omega
    · intro h
      have := dec_long 10 n.toNat (by omega)
      omega
  rw [hv]
  omega
end Go.Proofs.YtpmoepipoafegaaGreatDoor

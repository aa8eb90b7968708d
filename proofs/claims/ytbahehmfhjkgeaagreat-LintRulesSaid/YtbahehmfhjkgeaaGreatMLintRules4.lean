/-
  Joined texts: Filt4, Filt5, LrD, LrT, LrW, LrX, TailQ, Mix0, MixS, MixZ, LrY, Bdd1.
-/
import Derived.Test.YtbahehmfhjkgeaaGreatMLintRules2
import Derived.Test.YtbahehmfhjkgeaaGreatMLintRules3
import Derived.Test.YtbahehmfhjkgeaaGreatMLintRules1
import Derived.Test.YtbahehmfhjkgeaaGreatShelf2
import Derived.Test.YtbahehmfhjkgeaaGreatShelf3
import Derived.Test.YtbahehmfhjkgeaaGreatShelf7
import Derived.Lib.LaidU8
import Derived.Deep.MidRow
import Derived.StillTail
import Derived.Deep.QuietTactic
import Derived.BigQuiet
import Derived.Lib.QuietBelow
import Derived.OrdersHeld
import Derived.Deep.RegionHeld3
/-
  Walks over the filter's layer: whole filters: Check.
-/
namespace Go.Proofs.YtbahehmfhjkgeaaGreat
open Go Go.RowKit

instance : Inhabited RuleV := ⟨⟨false, 0, 0, 0, 0, 0, 0, 0, 0, 0, by omega, by omega, by omega, by omega, by omega, by omega, by omega⟩⟩
/-- A rule's ten cells. -/
def RuleV.enc (r : RuleV) : List Value := [.bool r.permit, .int .i64 r.proto, .int .u32 r.sa, .int .i64 r.sn, .int .u32 r.da, .int .i64 r.dn, .int .u32 r.sl, .int .u32 r.sh, .int .u32 r.dl, .int .u32 r.dh]
theorem rule_len (r : RuleV) : r.enc.length = 10 := rfl
def rcells (L : List RuleV) : List Value := L.flatMap RuleV.enc

set_option maxHeartbeats 400000 in
theorem notMay_any (r : RuleV) (w : World) :
    Calls Tryz.prog 106 #[.agg #[.bool r.permit, .int .i64 r.proto, .int .u32 r.sa, .int .i64 r.sn, .int .u32 r.da, .int .i64 r.dn, .int .u32 r.sl, .int .u32 r.sh, .int .u32 r.dl, .int .u32 r.dh]] w fun e w' => e = .returned (.bool (!mayB r)) ∧ Below w.heap.size w w' := by
  go_enter Tryz.func106, Tryz.ntmps106
  go_wp2_with fail
  refine (may_any r _).mono ?_
  rintro e w1 ⟨rfl, hb⟩
  have hbw := below_call (below1 w _) hb
  go_wp2
  go_ret
  exact ⟨rfl, hbw⟩
theorem notMay_pred (w : World) : PredBelow Tryz.prog 106 #[] (fun x : RuleV => .agg x.enc.toArray) (fun r => !mayB r) w := fun W r hb =>
  (notMay_any r W).mono fun _ _ ⟨he, hb'⟩ => ⟨he, hb.trans (hb'.mono hb.size)⟩

/-- slices.IndexFunc over rules, at any length. -/
theorem indexRule_any (L : List RuleV) (v : Value) (p : RuleV → Bool) (g : Nat) (lb : Array Value) (w : World) (eg : ∀ args w, (callFunc g args).run Tryz.prog w = .ok (.enter g args) w)
    (hp : PredBelow Tryz.prog g lb (fun x : RuleV => .agg x.enc.toArray) p w) (h : Rd w w.heap.size 10 v L.length (rcells L)) (hlen : L.length ≤ 9223372036854775807) :
    Calls Tryz.prog 103 #[v, .func (.func g) #[] lb] w fun e w' => e = .returned (.int .i64 (idxP p L)) ∧ Below w.heap.size w w' := by
  by_cases h0 : L.length = 0
  · obtain ⟨A, c, rfl, hc⟩ := h.form
    have e1 : L = [] := List.eq_nil_of_length_eq_zero h0
    subst e1
    clear hp h eg
    go_enter Tryz.func103, Tryz.ntmps103
    go_wp2
    refine wp_loop_rounds 1 ?_
    rw [rounds_succ]
    go_wp2
    go_ret
    exact ⟨rfl, Below.refl _ _⟩
  · obtain ⟨b, off, c, rfl, hc, hbB, hcell⟩ := h.pos (by omega)
    have := AnyQ.slices_IndexFunc Tryz.indexRule 10 Tryz.isAgg43 Tryz.sizeOf43 RuleV.enc rule_len p g lb eg b off L.length c L w hp (Nat.le_refl _) hlen hbB (Rd.cells rule_len hcell)
    rw [List.take_length] at this
    exact this
/-- slices.ContainsFunc over rules, at any length. -/
theorem containsRule_any (L : List RuleV) (v : Value) (p : RuleV → Bool) (g : Nat) (lb : Array Value) (w : World) (eg : ∀ args w, (callFunc g args).run Tryz.prog w = .ok (.enter g args) w)
    (hp : PredBelow Tryz.prog g lb (fun x : RuleV => .agg x.enc.toArray) p w) (h : Rd w w.heap.size 10 v L.length (rcells L)) (hlen : L.length ≤ 9223372036854775807) :
    Calls Tryz.prog 49 #[v, .func (.func g) #[] lb] w fun e w' => e = .returned (.bool (L.any p)) ∧ Below w.heap.size w w' := by
  by_cases h0 : L.length = 0
  · obtain ⟨A, c, rfl, hc⟩ := h.form
    have e1 : L = [] := List.eq_nil_of_length_eq_zero h0
    subst e1
    have hi := indexRule_any [] _ p g lb w eg hp h (by simp)
    have HI := Lib.hid hi
    clear hi hp h eg
    go_enter Tryz.func49, Tryz.ntmps49
    go_wp2_with fail
    refine HI.out.mono ?_
    rintro e w1 ⟨rfl, hb⟩
    have hm : (0 : Int) ≤ idxP p [] ↔ False := by rw [idxP_nil]; decide
    go_wp2
    go_ret
    exact ⟨ret_bool (by simp), hb⟩
  · obtain ⟨b, off, c, rfl, hc, hbB, hcell⟩ := h.pos (by omega)
    have := AnyQ.slices_ContainsFunc Tryz.containsRule 10 Tryz.isAgg43 Tryz.sizeOf43 RuleV.enc rule_len p g lb eg b off L.length c L w hp (Nat.le_refl _) hlen hbB (Rd.cells rule_len hcell)
    rw [List.take_length] at this
    exact this

/-- The refusal of a filter. -/
def filtE (L : List RuleV) : Int := if 256 < L.length then 121 else if L.any (fun r => !mayB r) then 121 else 0
theorem filtE_1 {L : List RuleV} (h : 256 < L.length) : filtE L = 121 := if_pos h
theorem filtE_2 {L : List RuleV} (h : ¬ 256 < L.length) (h1 : L.any (fun r => !mayB r) = true) : filtE L = 121 := by unfold filtE; rw [if_neg h, if_pos h1]
theorem filtE_3 {L : List RuleV} (h : ¬ 256 < L.length) (h1 : L.any (fun r => !mayB r) = false) : filtE L = 0 := by unfold filtE; rw [if_neg h, if_neg (by simp [h1])]

set_option maxHeartbeats 400000 in
theorem filtCheck_any (nm : ByteArray) (L : List RuleV) (v : Value) (w : World) (h : Rd w w.heap.size 10 v L.length (rcells L)) :
    Calls Tryz.prog 48 #[.agg #[.string nm, v]] w fun e w' => e = .returned (.int .i64 (filtE L)) ∧ Below w.heap.size w w' := by
  have hW : Below w.heap.size w (w.alloc (.cells #[.string nm, v] 24)) := below1 w _
  have h' := (h.below hW).mono hW.size
  obtain ⟨A, c, rfl, hc⟩ := h.form
  by_cases h1 : 256 < L.length
  · have hE := Lib.hid (filtE_1 h1)
    have h2 : (256 : Int) < (L.length : Int) := by omega
    clear h h'
    go_enter Tryz.func48, Tryz.ntmps48
    go_wp2
    go_ret
    exact ⟨ret_int hE.out.symm, hW⟩
  · have h2 : ¬ (256 : Int) < (L.length : Int) := by omega
    have hcon := Lib.hid (containsRule_any L _ (fun r => !mayB r) 106 #[] _ (enters_of Tryz.func106 (by kernel_rfl) rfl) (notMay_pred _) h' (by omega))
    clear h h'
    by_cases h3 : L.any (fun r => !mayB r) = true
    · have hE := Lib.hid (filtE_2 h1 h3)
      have H3 := Lib.hid h3
      clear h3 h1
      generalize L.any (fun r => !mayB r) = B at *
      go_enter Tryz.func48, Tryz.ntmps48
      go_wp2_with fail
      refine hcon.out.mono ?_
      rintro e w1 ⟨rfl, hb⟩
      have hB := H3.out
      have hbw := below_call hW hb
      go_wp2
      go_ret
      exact ⟨ret_int hE.out.symm, hbw⟩
    · have h3' : L.any (fun r => !mayB r) = false := by simpa using h3
      have hE := Lib.hid (filtE_3 h1 h3')
      have H3 := Lib.hid h3'
      clear h3 h3' h1
      generalize L.any (fun r => !mayB r) = B at *
      go_enter Tryz.func48, Tryz.ntmps48
      go_wp2_with fail
      refine hcon.out.mono ?_
      rintro e w1 ⟨rfl, hb⟩
      have hB := H3.out
      have hbw := below_call hW hb
      go_wp2
      go_ret
      exact ⟨ret_int hE.out.symm, hbw⟩

end Go.Proofs.YtbahehmfhjkgeaaGreat

/-
  Walks over the filter's layer: whole filters: the reference's Check, Decides.
-/
namespace Go.Proofs.YtbahehmfhjkgeaaGreat
open Go Go.RowKit Go.Sort

theorem rcell {L : List RuleV} {k i : Nat} {r : RuleV} {v : Value} (h : L[k]? = some r) (hv : r.enc[i]? = some v) : (rcells L)[k * 10 + i]? = some v := flat_get RuleV.enc 10 rule_len L k i r v h hv

set_option maxRecDepth 100000 in
set_option maxHeartbeats 1000000 in
theorem refFiltCheck_any (nm : ByteArray) (L : List RuleV) (v : Value) (w : World) (h : Rd w w.heap.size 10 v L.length (rcells L)) :
    Calls Tryz.prog 9 #[.agg #[.string nm, v]] w fun e w' => e = .returned (.int .i64 (filtE L)) ∧ Below w.heap.size w w' := by
  by_cases h1 : 256 < L.length
  · obtain ⟨A, c, rfl, hc⟩ := h.form
    have hE := Lib.hid (filtE_1 h1)
    have h2 : (256 : Int) < (L.length : Int) := by omega
    clear h
    go_enter Tryz.func9, Tryz.ntmps9
    go_wp2
    go_ret
    exact ⟨ret_int hE.out.symm, below1 w _⟩
  · have h2 : ¬ (256 : Int) < (L.length : Int) := by omega
    have H1 := Lib.hid h1
    by_cases h0 : L.length = 0
    · obtain ⟨A, c, rfl, hc⟩ := h.form
      have e1 : L = [] := List.eq_nil_of_length_eq_zero h0
      subst e1
      clear h h1
      go_enter Tryz.func9, Tryz.ntmps9
      go_wp2
      refine wp_loop_rounds 1 ?_
      rw [rounds_succ]
      go_wp2
      go_ret
      exact ⟨rfl, below1 w _⟩
    · obtain ⟨b, off, c, rfl, hc, hbB, hcell⟩ := h.posAt (by omega)
      clear h
      have HC := Lib.hid hcell
      clear hcell
      go_enter Tryz.func9, Tryz.ntmps9
      go_wp2
      go_loopw [3] (fun i wr => ∃ k : Nat, i = .int .i64 k ∧ k ≤ L.length ∧ Hid (∀ (j : Nat) (r : RuleV), j < k → L[j]? = some r → mayB r = true) ∧ wr.heap[w.heap.size]? = some (.cells #[.string nm, .slice (some ⟨b, off, none⟩) L.length c] 24 (0, 0)) ∧ Below w.heap.size w wr) (fun i _ => L.length - (intOf i).toNat)
      case atStart => exact ⟨0, rfl, by omega, fun j r hj => absurd hj (by omega), blk1 w _, below1 w _⟩
      case round =>
        obtain ⟨k, rfl, hk, hmay, hblk, hnx⟩ := hrel
        obtain ⟨ca, cb, _, _⟩ := two_cells hblk
        have HB := Lib.hid hblk
        clear hblk
        by_cases hlt : k < L.length
        · obtain ⟨r, hr⟩ : ∃ r, L[k]? = some r := ⟨_, List.getElem?_eq_getElem hlt⟩
          have hI : (k : Int) < (L.length : Int) := by omega
          have c0 : wr.cell? ⟨b, off + k * 10, none⟩ = some (.bool r.permit) := (hnx.cell hbB).trans (HC.out k 0 _ (rcell hr rfl))
          have c1 : wr.cell? ⟨b, off + k * 10 + 1, none⟩ = some (.int .i64 r.proto) := (hnx.cell hbB).trans (HC.out k 1 _ (rcell hr rfl))
          have c2 : wr.cell? ⟨b, off + k * 10 + 2, none⟩ = some (.int .u32 r.sa) := (hnx.cell hbB).trans (HC.out k 2 _ (rcell hr rfl))
          have c3 : wr.cell? ⟨b, off + k * 10 + 3, none⟩ = some (.int .i64 r.sn) := (hnx.cell hbB).trans (HC.out k 3 _ (rcell hr rfl))
          have c4 : wr.cell? ⟨b, off + k * 10 + 4, none⟩ = some (.int .u32 r.da) := (hnx.cell hbB).trans (HC.out k 4 _ (rcell hr rfl))
          have c5 : wr.cell? ⟨b, off + k * 10 + 5, none⟩ = some (.int .i64 r.dn) := (hnx.cell hbB).trans (HC.out k 5 _ (rcell hr rfl))
          have c6 : wr.cell? ⟨b, off + k * 10 + 6, none⟩ = some (.int .u32 r.sl) := (hnx.cell hbB).trans (HC.out k 6 _ (rcell hr rfl))
          have c7 : wr.cell? ⟨b, off + k * 10 + 7, none⟩ = some (.int .u32 r.sh) := (hnx.cell hbB).trans (HC.out k 7 _ (rcell hr rfl))
          have c8 : wr.cell? ⟨b, off + k * 10 + 8, none⟩ = some (.int .u32 r.dl) := (hnx.cell hbB).trans (HC.out k 8 _ (rcell hr rfl))
          have c9 : wr.cell? ⟨b, off + k * 10 + 9, none⟩ = some (.int .u32 r.dh) := (hnx.cell hbB).trans (HC.out k 9 _ (rcell hr rfl))
          have HR := Lib.hid hr
          clear hr
          by_cases hm : mayB r = true
          · have hm' : mayB r = true := hm
            have HM := Lib.hid hm
            clear hm
            go_wp2_with fail
            refine (refMay_any r _).mono ?_
            rintro e w1 ⟨rfl, hb⟩
            have J := Lib.hid (blk_below hb HB.out)
            have hnx1 := hnx.trans (hb.mono hnx.size)
            obtain ⟨ca', cb', _, _⟩ := two_cells J.out
            clear hb hnx c0 c1 c2 c3 c4 c5 c6 c7 c8 c9 ca cb
            go_wp2
            refine ⟨⟨k + 1, by go_num, by omega, fun j r' hj hr' => ?_, J.out, hnx1⟩, by simp only [intOf]; omega⟩
            by_cases hjk : j = k
            · subst hjk
              have := HR.out
              rw [this] at hr'
              injection hr' with hr'
              rw [← hr']; exact HM.out
            · exact hmay.out j r' (by omega) hr'
          · have hm' : mayB r = false := by simpa using hm
            have HM := Lib.hid hm'
            clear hm
            go_wp2_with fail
            refine (refMay_any r _).mono ?_
            rintro e w1 ⟨rfl, hb⟩
            have hnx1 := hnx.trans (hb.mono hnx.size)
            clear hb hnx c0 c1 c2 c3 c4 c5 c6 c7 c8 c9 ca cb
            go_wp2
            go_ret
            refine ⟨ret_int (filtE_2 H1.out ?_).symm, hnx1⟩
            rw [List.any_eq_true]
            exact ⟨r, List.mem_of_getElem? HR.out, by simp [HM.out]⟩
        · go_wp2
          go_ret
          refine ⟨ret_int (filtE_3 H1.out ?_).symm, hnx⟩
          rw [List.any_eq_false]
          intro r hr
          obtain ⟨j, hj, hjr⟩ := List.getElem_of_mem hr
          have := hmay.out j r (by omega) (by rw [List.getElem?_eq_getElem hj, hjr])
          simp [this]

end Go.Proofs.YtbahehmfhjkgeaaGreat

/-
  slices.Delete at rules: one rule out of a list's own copy.
-/
namespace Go.Proofs.YtbahehmfhjkgeaaGreat
open Go Go.RowKit Go.ChangeMaps Go.MapKept Go.Maps Go.Lib Go.Sort

theorem take_spliceL {α : Type} {L : List α} {off m : Nat} {cs : List α} (h : off + cs.length ≤ L.length) (hm : m = off + cs.length) : (splice L off cs).take m = L.take off ++ cs := by
  unfold splice
  have e : (L.take off ++ cs).length = m := by rw [List.length_append, List.length_take]; omega
  rw [← List.append_assoc, List.take_left' e]
theorem take_splice_lowL {α : Type} {L : List α} {off m : Nat} {cs : List α} (h : off ≤ L.length) (hm : m = off) : (splice L off cs).take m = L.take off := by
  unfold splice
  subst hm
  rw [List.take_left' (by rw [List.length_take]; omega)]
theorem setCells_splice (w : World) (g off : Nat) (ty : TypeId) (cur cs : List Value) (hg : w.heap[g]? = some (.cells cur.toArray ty (0, 0))) (hfit : off + cs.length ≤ cur.length) (h1 : ∀ v ∈ cs, v.oneCell' = true) :
    (w.setCells g off cs).heap[g]? = some (.cells (splice cur off cs).toArray ty (0, 0)) := by
  have hst := run_storeCells_at Tryz.prog g off ty cs 0 cur.toArray w hg (by simpa using hfit) h1
  have hc : ∀ j, j < cs.length → (w.cell? ⟨g, off + 0 + j, none⟩).isSome = true := fun j hj => by
    rw [show off + 0 + j = off + j by omega]
    have hlt : off + j < cur.length := by omega
    rw [cell_of_row w g (off + j) _ _ (0, 0) hg]
    simp [hlt]
  have hf : ∀ j, j < cs.length → w.frozen? ⟨g, off + 0 + j, none⟩ = false := fun j _ => by
    have := frozen_of_row w g (off + 0 + j) _ _ hg
    simpa using this
  have hsc := run_storeCells_cells (P := Tryz.prog) g off cs 0 w hc hf h1
  rw [hst] at hsc
  injection hsc with _ hw
  simp only [Nat.add_zero] at hw
  rw [← hw]
  have := setRow_heap w g cur.toArray (cur.toArray.toList.take off ++ cs ++ cur.toArray.toList.drop (off + cs.length)).toArray ty (0, 0) hg
  simpa [splice] using this
theorem Tryz.infoRuleL : (Tryz.prog.info? 43).map (fun i => (i.zero, i.size, i.bytes)) = some (some (.agg #[.bool false, .int .i64 0, .int .u32 0, .int .i64 0, .int .u32 0, .int .i64 0, .int .u32 0, .int .u32 0, .int .u32 0, .int .u32 0]), 10, 64) := by kernel_rfl
theorem rencL_one (x : RuleV) : ∀ u ∈ x.enc, u.oneCell' = true := fun u hu => by
  simp only [RuleV.enc, List.mem_cons, List.not_mem_nil, or_false] at hu
  rcases hu with rfl | rfl | rfl | rfl | rfl | rfl | rfl | rfl | rfl | rfl <;> rfl
theorem rcellsL_ones (L : List RuleV) : ∀ u ∈ rcells L, u.oneCell' = true := fun u hu => by
  obtain ⟨x, _, hx⟩ := List.mem_flatMap.1 hu
  exact rencL_one x u hx
theorem rcellsL_app (L M : List RuleV) : rcells (L ++ M) = rcells L ++ rcells M := by simp [rcells]
theorem rcellsL_len (L : List RuleV) : (rcells L).length = L.length * 10 := flat_len RuleV.enc 10 rule_len L
theorem below_setsL {B : Nat} {a : World} (b : Nat) (hb : B ≤ b) : ∀ (vs : List Value) (o : Nat) (w : World), Below B a w → Below B a (w.setCells b o vs)
  | [], _, _, h => h
  | v :: r, o, w, h => by
    rw [World.setCells]
    exact below_setsL b hb r (o + 1) _ (h.setCell (p := ⟨b, o, none⟩) hb v)

def zRule : Value := .agg #[.bool false, .int .i64 0, .int .u32 0, .int .i64 0, .int .u32 0, .int .i64 0, .int .u32 0, .int .u32 0, .int .u32 0, .int .u32 0]
theorem Tryz.zeroRuleD (w : World) : (zeroValue 43).run Tryz.prog w = .ok zRule w := by
  obtain ⟨i0, hi, hz0, _, _⟩ := info_parts Tryz.infoRuleL
  simp [zeroValue, typeInfo, hi, hz0, zRule]
theorem zRule_len (n : Nat) : (Builtin.zeroCells zRule.cells n).toList.length = n * 10 := by
  simp [Builtin.zeroCells, Value.cells, zRule]
section
set_option maxRecDepth 100000
set_option maxHeartbeats 4000000
theorem deleteR_any (L : List RuleV) (v : Value) (base B : Nat) (w : World) (i : Nat) (hown : w.ownsRow base 43 10 v L.length (rcells L)) (hi : i < L.length) (hlen : L.length ≤ 1000) (hB : B ≤ base) :
    Calls Tryz.prog 150 #[v, .int .i64 i, .int .i64 ((i : Int) + 1)] w fun e w' =>
      ∃ v', e = .returned v' ∧ w'.ownsRow base 43 10 v' (L.take i ++ L.drop (i + 1)).length (rcells (L.take i ++ L.drop (i + 1))) ∧ Below B w w' := by
  obtain ⟨j0, jif, jz0, jz1, jz2⟩ := info_parts Tryz.infoRuleL
  obtain ⟨A, c, rfl, hA⟩ := owns_form hown
  obtain ⟨g, hgA⟩ := hA (by omega)
  clear hA
  subst hgA
  have hg : g < w.heap.size := (hown.lt g rfl).2
  obtain ⟨cur, hgx, hnc, hcm, hcs, htk, hbg⟩ := owns_block hown
  obtain ⟨news, hnews⟩ : ∃ news, news = rcells (L.drop (i + 1)) := ⟨_, rfl⟩
  have hnl : news.length = (L.length - (i + 1)) * 10 := by rw [hnews, rcellsL_len, List.length_drop]
  have hparts : rcells L = rcells (L.take (i + 1)) ++ news := by rw [hnews, ← rcellsL_app, List.take_append_drop]
  have hparts0 : rcells L = rcells (L.take i) ++ rcells (L.drop i) := by rw [← rcellsL_app, List.take_append_drop]
  have htl : (rcells (L.take (i + 1))).length = (i + 1) * 10 := by rw [rcellsL_len, List.length_take]; congr 1; omega
  have htl0 : (rcells (L.take i)).length = i * 10 := by rw [rcellsL_len, List.length_take]; congr 1; omega
  have hget : ∀ t u, news[t]? = some u → w.cell? ⟨g, (i + 1) * 10 + t, none⟩ = some u := fun t u hu => by
    have hlt := (List.getElem?_eq_some_iff.1 hu).1
    rw [hown.cellAt _ (by omega), hparts, List.getElem?_append_right (by omega), htl, Nat.add_sub_cancel_left]
    exact hu
  obtain ⟨A, hA, hsrc⟩ : ∃ A : Addr, (if c = i + 1 then (some ⟨g, 0, none⟩ : Option Addr) else some ⟨g, (i + 1) * 10, none⟩) = some A ∧ Hid (∀ t u, news[t]? = some u → w.drew.cell? (A.add t) = some u) := by
    by_cases h : c = i + 1
    · refine ⟨⟨g, 0, none⟩, by simp [h], fun t u hu => ?_⟩
      have hlt := (List.getElem?_eq_some_iff.1 hu).1
      omega
    · refine ⟨⟨g, (i + 1) * 10, none⟩, by simp [h], fun t u hu => ?_⟩
      rw [Addr.add_lit]
      exact hget t u hu
  have HN := Lib.hid hnl
  have h1c : Hid (∀ u ∈ news, u.oneCell' = true) := Lib.hid (by rw [hnews]; exact rcellsL_ones _)
  have hcurl : cur.toList.length = c * 10 := by simpa using hcs
  have hspare : Hid (∀ j, j < news.length → (w.drew.cell? ⟨g, 0 + i * 10 + j, none⟩).isSome = true ∧ w.drew.frozen? ⟨g, 0 + i * 10 + j, none⟩ = false) := Lib.hid fun j hj => by
    refine ⟨?_, ?_⟩
    · show (w.cell? _).isSome = true
      rw [hown.cellAt (xs := rcells L) (0 + i * 10 + j) (by omega)]
      rw [List.getElem?_eq_getElem (by rw [rcellsL_len]; omega)]
      rfl
    · exact hown.frozenAt _
  have hW1 : Hid ((w.drew.setCells g (i * 10) news).heap[g]? = some (.cells (splice cur.toList (i * 10) news).toArray 43 (0, 0))) := Lib.hid (by
    have := setCells_splice w.drew g (i * 10) 43 cur.toList news (show w.heap[g]? = _ by simpa using hgx) (by omega) h1c.out
    simpa using this)
  have hB1 : Hid (Below B w (w.drew.setCells g (i * 10) news)) := Lib.hid (below_setsL g (Nat.le_trans hB hbg) news _ _ ⟨rfl, rfl, rfl, Nat.le_refl _, fun _ _ => rfl⟩)
  have hT1 : Hid ((splice cur.toList (i * 10) news).take ((L.length - 1) * 10) = rcells (L.take i ++ L.drop (i + 1))) := Lib.hid (by
    rw [take_spliceL (by omega) (by omega), rcellsL_app, ← hnews]
    congr 1
    have : cur.toList.take (i * 10) = (cur.toList.take (L.length * 10)).take (i * 10) := by rw [List.take_take]; congr 1; omega
    rw [this, htk, hparts0, List.take_left' htl0])
  have hL1 : Hid ((splice cur.toList (i * 10) news).length = c * 10) := Lib.hid (by rw [length_splice _ _ _ (by omega)]; exact hcurl)
  clear hparts hparts0 htl htl0 hget hnews hnl hcurl hcs htk hgx
  have HO := Lib.hid hown
  clear hown
  have hI1 : (i : Int) < (L.length : Int) := by omega
  have hJ1 : (0 : Int) ≤ (i : Int) + 1 := by omega
  have hJ2 : (i : Int) + 1 ≤ (L.length : Int) := by omega
  have hne : ((i : Int) == (i : Int) + 1) = false := by simp; omega
  have hic : i ≤ c := by omega
  have hjc : i + 1 ≤ c := by omega
  go_enter Tryz.func150, Tryz.ntmps150
  go_upto_region 5 with fail
  go_region_law (refine step_append_room rfl (.tmp 22) (.tmp 25) 22 rfl 43 j0 10 Tryz.underlying22 jif jz1 g 0 i c (by simp [Act.eval, Act.put]) A (L.length - (i + 1)) (c - (i + 1)) news (by simp [Act.eval, Act.put]) HN.out hsrc.out h1c.out (by omega) hspare.out ?_)
  generalize w.drew.setCells g (i * 10) news = W1 at *
  obtain ⟨m, hm⟩ : ∃ m, i + (L.length - (i + 1)) = m := ⟨_, rfl⟩
  simp only [hm]
  have hm1 : m + 1 = L.length := by omega
  have hmI : (m : Int) ≤ (L.length : Int) := by omega
  have hmc : ¬ c = m := by omega
  have hmn : m ≤ L.length := by omega
  have hgx := hW1.out
  have hfz : m * 10 + (Builtin.zeroCells zRule.cells (L.length - m)).toList.length ≤ (splice cur.toList (i * 10) news).length := by rw [zRule_len, hL1.out]; omega
  go_wp2_with (refine wpList_clear_K rfl _ 22 rfl 43 Tryz.underlying22 zRule Tryz.zeroRuleD (by intro v hv; simp only [zRule, Value.cells, List.mem_cons, List.not_mem_nil, or_false] at hv; rcases hv with rfl | rfl | rfl | rfl | rfl | rfl | rfl | rfl | rfl | rfl <;> rfl) (some ⟨g, m * 10, none⟩) (L.length - m) (c - m) rfl (by omega) g (m * 10) rfl (splice cur.toList (i * 10) news) 43 hgx _ rfl hfz B w hB1.out (Nat.le_trans hB hbg) ?_; intro w5 hg5 hb5)
  go_ret
  have hl5 := length_splice (splice cur.toList (i * 10) news) (m * 10) _ hfz
  have hml : (L.take i ++ L.drop (i + 1)).length = m := by rw [List.length_append, List.length_take, List.length_drop]; omega
  refine ⟨_, rfl, ?_, hb5⟩
  rw [hml]
  refine owns_of_block (cur := (splice (splice cur.toList (i * 10) news) (m * 10) _).toArray) hg5.out (by omega) hcm (by rw [List.size_toArray, hl5]; exact hL1.out) ?_ (by rw [rcellsL_len, hml]) hbg
  rw [← hT1.out, ← hm1, Nat.add_sub_cancel]
  exact take_splice_lowL (by rw [hL1.out]; omega) rfl
end
end Go.Proofs.YtbahehmfhjkgeaaGreat

/-
  A device of one filter: the twin of it, and what is left without one of its rules.
-/
namespace Go.Proofs.YtbahehmfhjkgeaaGreat
open Go Go.RowKit Go.ChangeMaps Go.MapKept Go.Maps Go.Lib Go.Sort

theorem setCell_id (w : World) (b i : Nat) (v : Value) (cur : Array Value) (ty : TypeId) (fr : Nat × Nat) (hg : w.heap[b]? = some (.cells cur ty fr)) (hv : cur[i]? = some v) : w.setCell ⟨b, i, none⟩ v = w := by
  rw [setCell_eq]
  refine mapBlock_id w b _ fun c e fr' h => ?_
  rw [hg] at h
  injection h with h
  injection h with h1
  subst h1
  apply Array.ext_getElem?
  intro j
  rw [Array.getElem?_setIfInBounds]
  split
  · rename_i hij
    subst hij
    split
    · exact hv.symm
    · rename_i hlt
      rw [Array.getElem?_eq_none (by omega)] at hv
      cases hv
  · rfl
/-- A store of what stands there already: of a region that draws its order, a quiet operation. -/
theorem quiet_store_id {P : Program} {ops : Array Oper} {o : Oper} {a : Act} {C : World → Prop} {K : Act → Prop} (hw : Region.wanted o (yielded ops a.tmps) = true) (t : TypeId) (p x : Operand) (ho : o.op = .store t p x) (b i : Nat) (hp : a.eval p = .pointer (some ⟨b, i, none⟩)) (v : Value) (hx : a.eval x = v)
    (hs : ∀ w, (Go.sizeOf t).run P w = .ok 1 w) (hv : v.cells = #[v]) (h1 : v.oneCell' = true)
    (hC : ∀ w, C w → w.cell? ⟨b, i, none⟩ = some v ∧ w.frozen? ⟨b, i, none⟩ = false ∧ w.setCell ⟨b, i, none⟩ v = w) (h : K (a.put o.dst undef)) : if Region.wanted o (yielded ops a.tmps) then o.quiet P a C K else K (a.put o.dst undef) := by
  rw [if_pos hw]
  refine ⟨undef, fun w hw => ?_, h⟩
  obtain ⟨c1, c2, c3⟩ := hC w hw
  unfold Oper.quietAt
  have hst := run_storeCells_cells (P := P) b i [v] 0 w (fun j hj => by
    obtain rfl : j = 0 := by simp at hj; omega
    simp [c1]) (fun j hj => by
    obtain rfl : j = 0 := by simp at hj; omega
    simpa using c2) (fun u hu => by
    obtain rfl : u = v := by simpa using hu
    exact h1)
  simp only [Nat.add_zero, World.setCells, c3] at hst
  simp [execOp, ho, hp, hx, Instr.storeAt, Instr.sureAddr, storeVar, hs, hv, hst, Oper.quietUpon]
section
set_option maxRecDepth 100000
set_option maxHeartbeats 4000000
theorem ownsNilL (w : World) (base : Nat) : w.ownsRow base 43 10 (.slice none 0 0) ([] : List RuleV).length (rcells []) := ⟨by simp [rcells], .inl ⟨rfl, rfl⟩⟩
theorem cloneRuleL_any (L : List RuleV) (v : Value) (w : World) (h : Rd w w.heap.size 10 v L.length (rcells L)) (hbig : L.length ≤ 1000) :
    Calls Tryz.prog 128 #[v] w fun e w' => ∃ v', e = .returned v' ∧ w'.ownsRow w.heap.size 43 10 v' L.length (rcells L) ∧ Below w.heap.size w w' := by
  obtain ⟨i0, hi, hz0, hz1, hz2⟩ := info_parts Tryz.infoRuleL
  rcases Nat.eq_zero_or_pos L.length with h0 | h0
  · obtain rfl : L = [] := List.eq_nil_of_length_eq_zero h0
    obtain ⟨A, c, rfl, hc⟩ := h.form
    rcases A with _ | ad
    · exact (AnyE.slices_Clone_nil Tryz.cloneRule _ c w).mono fun e w' ⟨he, hw⟩ => ⟨_, he, by subst hw; exact ownsNilL _ _, by subst hw; exact Below.refl _ _⟩
    · clear h
      go_enter Tryz.func128, Tryz.ntmps128
      have q : ∀ w, (binOp .eql 22 (.slice (some ad) 0 c) (.slice none 0 0)).run Tryz.prog w = .ok (.bool false) w := fun w => Lib.run_eql_slice_nil w _ _ (some ad) 0 c 0 0 Tryz.underlying22
      have hmade : (w.alloc (.cells #[] 43)).ownsRow w.heap.size 43 10 (.slice (some ⟨w.heap.size, 0, none⟩) 0 0) 0 [] := World.ownsRow_made w #[] 0 (Nat.le_refl _) (Nat.zero_le _) (by simp)
      have HM := Lib.hid hmade
      clear hmade
      go_wp2
      go_ret
      exact ⟨_, rfl, HM.out, below1 w _⟩
  · obtain ⟨b, off, c, rfl, hc, hbB, hcell⟩ := h.pos h0
    have := AnyE.slices_Clone Tryz.cloneRule i0 _ 10 64 hi hz0 hz1 hz2 rfl (by decide) Tryz.sizeOf43 b off L.length c (rcells L) w (rcellsL_len L) (by unfold maxLen; omega) (by omega) hcell (rcellsL_ones L)
    exact this.mono fun e w' ⟨v', he, hown, _, hb⟩ => ⟨v', he, hown, hb⟩
/-! Nothing to be made anew. -/
theorem eachPrefixList_nil (f : Value) (w : World) : Calls Tryz.prog 129 #[.slice none 0 0, f] w fun e w' => e = .returned (.slice none 0 0) ∧ w' = w := by
  go_enter Tryz.func129, Tryz.ntmps129
  go_wp2
  go_loopw [5, 10] (fun r i wr => r = .slice none 0 0 ∧ i = .int .i64 0 ∧ wr = w) (fun _ _ _ => 0)
  case atStart => exact ⟨rfl, rfl, rfl⟩
  case round =>
    obtain ⟨rfl, rfl, rfl⟩ := hrel
    go_wp2
    go_ret
    exact ⟨rfl, rfl⟩
theorem eachCommunityList_nil (f : Value) (w : World) : Calls Tryz.prog 132 #[.slice none 0 0, f] w fun e w' => e = .returned (.slice none 0 0) ∧ w' = w := by
  go_enter Tryz.func132, Tryz.ntmps132
  go_wp2
  go_loopw [5, 10] (fun r i wr => r = .slice none 0 0 ∧ i = .int .i64 0 ∧ wr = w) (fun _ _ _ => 0)
  case atStart => exact ⟨rfl, rfl, rfl⟩
  case round =>
    obtain ⟨rfl, rfl, rfl⟩ := hrel
    go_wp2
    go_ret
    exact ⟨rfl, rfl⟩
theorem eachPolicy_nil (f : Value) (w : World) : Calls Tryz.prog 137 #[.slice none 0 0, f] w fun e w' => e = .returned (.slice none 0 0) ∧ w' = w := by
  go_enter Tryz.func137, Tryz.ntmps137
  go_wp2
  go_loopw [5, 10] (fun r i wr => r = .slice none 0 0 ∧ i = .int .i64 0 ∧ wr = w) (fun _ _ _ => 0)
  case atStart => exact ⟨rfl, rfl, rfl⟩
  case round =>
    obtain ⟨rfl, rfl, rfl⟩ := hrel
    go_wp2
    go_ret
    exact ⟨rfl, rfl⟩
theorem eachOSPF_nil (f : Value) (w : World) : Calls Tryz.prog 141 #[.slice none 0 0, f] w fun e w' => e = .returned (.slice none 0 0) ∧ w' = w := by
  go_enter Tryz.func141, Tryz.ntmps141
  go_wp2
  go_loopw [5, 10] (fun r i wr => r = .slice none 0 0 ∧ i = .int .i64 0 ∧ wr = w) (fun _ _ _ => 0)
  case atStart => exact ⟨rfl, rfl, rfl⟩
  case round =>
    obtain ⟨rfl, rfl, rfl⟩ := hrel
    go_wp2
    go_ret
    exact ⟨rfl, rfl⟩
theorem eachBGP_nil (f : Value) (w : World) : Calls Tryz.prog 144 #[.slice none 0 0, f] w fun e w' => e = .returned (.slice none 0 0) ∧ w' = w := by
  go_enter Tryz.func144, Tryz.ntmps144
  go_wp2
  go_loopw [5, 10] (fun r i wr => r = .slice none 0 0 ∧ i = .int .i64 0 ∧ wr = w) (fun _ _ _ => 0)
  case atStart => exact ⟨rfl, rfl, rfl⟩
  case round =>
    obtain ⟨rfl, rfl, rfl⟩ := hrel
    go_wp2
    go_ret
    exact ⟨rfl, rfl⟩
theorem owns_setL {w : World} {base g i n : Nat} {e : TypeId} {k : Nat} {v u : Value} {xs : List Value} (h : w.ownsRow base e k v n xs) (hg : g < base) : (w.setCell ⟨g, i, none⟩ u).ownsRow base e k v n xs := by
  obtain ⟨hl, h2⟩ := h
  rcases h2 with h2 | ⟨g', cap, cur, rfl, hb, hh, r⟩
  · exact ⟨hl, .inl h2⟩
  · exact ⟨hl, .inr ⟨g', cap, cur, rfl, hb, set_far hh (by show g' ≠ g; omega), r⟩⟩
/-- A filter's twin. -/
theorem twinF_any (w : World) (nm : ByteArray) (L : List RuleV) (vL : Value) (hL : Rd w w.heap.size 10 vL L.length (rcells L)) (hl : L.length ≤ 1000) :
    Calls Tryz.prog 127 #[.agg #[.string nm, vL]] w fun e w' => ∃ v', e = .returned (.agg #[.string nm, v']) ∧ w'.ownsRow w.heap.size 43 10 v' L.length (rcells L) ∧ Below w.heap.size w w' := by
  obtain ⟨PL, cL, rfl, _⟩ := hL.form
  have hb0 := below2 w (.cells #[.string nm, .slice PL L.length cL] 24) (.cells #[.string ⟨#[]⟩, .slice none 0 0] 24)
  obtain ⟨k0, k1⟩ := blk2 w (.cells #[.string nm, .slice PL L.length cL] 24) (.cells #[.string ⟨#[]⟩, .slice none 0 0] 24)
  have hCL := cloneRuleL_any L _ _ ((hL.below hb0).mono hb0.size) hl
  have HB := Lib.hid hb0
  have K0 := Lib.hid k0
  have K1 := Lib.hid k1
  have HCL := Lib.hid hCL
  clear hb0 k0 k1 hL hCL
  go_enter Tryz.func127, Tryz.ntmps127
  go_upto_region 1 with fail
  have hsz : ((w.alloc (.cells #[.string nm, .slice PL L.length cL] 24)).alloc (.cells #[.string ⟨#[]⟩, .slice none 0 0] 24)).heap.size = w.heap.size + 2 := by simp
  generalize (w.alloc (.cells #[.string nm, .slice PL L.length cL] 24)).alloc (.cells #[.string ⟨#[]⟩, .slice none 0 0] 24) = w1 at *
  have c1 : w1.cell? ⟨w.heap.size, 1, none⟩ = some (.slice PL L.length cL) := cell_of_row _ _ 1 _ _ (0, 0) K0.out
  go_upto_region 2 with ((with_reducible refine HCL.out.mono ?_); rintro e w2 ⟨v2, rfl, ho2, hb2⟩; obtain ⟨A2, c2, rfl, _⟩ := owns_form ho2; have d1 : w2.cell? ⟨w.heap.size, 1, none⟩ = some (.slice PL L.length cL) := cell_of_row _ _ 1 _ _ (0, 0) (blk_below hb2 K0.out); have f1 := frozen_of_row _ _ 1 _ _ (blk_below hb2 K0.out); have HO2 := Lib.hid ho2; have HB2 := Lib.hid hb2; clear ho2 hb2)
  have K2 : Hid ((w2.setCell ⟨w.heap.size, 1, none⟩ (.slice A2 L.length c2)).heap[w.heap.size]? = some (.cells #[.string nm, .slice A2 L.length c2] 24 (0, 0))) := Lib.hid (set_at (i := 1) (u := .slice A2 L.length c2) (blk_below HB2.out K0.out))
  have K3 := Lib.hid (set_far (p := ⟨w.heap.size, 1, none⟩) (u := .slice A2 L.length c2) (blk_below HB2.out K1.out) (by show w.heap.size + 1 ≠ w.heap.size; omega))
  have HO3 := Lib.hid (owns_setL (i := 1) (u := .slice A2 L.length c2) HO2.out (show w.heap.size < w1.heap.size by omega))
  have HB3 := Lib.hid ((HB.out.trans (HB2.out.mono HB.out.size)).setCell (p := ⟨w.heap.size, 1, none⟩) (Nat.le_refl _) (.slice A2 L.length c2))
  clear d1 f1 c1 HO2 HB2
  generalize w2.setCell ⟨w.heap.size, 1, none⟩ (.slice A2 L.length c2) = w3 at *
  have d0 : w3.cell? ⟨w.heap.size, 0, none⟩ = some (.string nm) := cell_of_row _ _ 0 _ _ (0, 0) K2.out
  have d1 : w3.cell? ⟨w.heap.size, 1, none⟩ = some (.slice A2 L.length c2) := cell_of_row _ _ 1 _ _ (0, 0) K2.out
  have e0 : w3.cell? ⟨w.heap.size + 1, 0, none⟩ = some (.string ⟨#[]⟩) := cell_of_row _ _ 0 _ _ (0, 0) K3.out
  have e1 : w3.cell? ⟨w.heap.size + 1, 1, none⟩ = some (.slice none 0 0) := cell_of_row _ _ 1 _ _ (0, 0) K3.out
  have f0 := frozen_of_row _ _ 0 _ _ K3.out
  have f1 := frozen_of_row _ _ 1 _ _ K3.out
  go_wp2
  have K4 := set_at (i := 1) (u := .slice A2 L.length c2) (set_at (i := 0) (u := .string nm) K3.out)
  have HO4 := (owns_setL (i := 1) (u := .slice A2 L.length c2) (owns_setL (i := 0) (u := .string nm) HO3.out (show w.heap.size + 1 < w1.heap.size by omega)) (show w.heap.size + 1 < w1.heap.size by omega))
  try simp only [Exit.inBlock, Exit.then]
  exact bodyPost_ret (results_cell_row Tryz.results127 _ _ (w.heap.size + 1) _ _ (0, 0) _ rfl K4 Tryz.underlying24 rfl (by kernel_rfl)) rfl ⟨_, rfl, owns_base HO4 (by omega), (HB3.out.setCell (p := ⟨w.heap.size + 1, 0, none⟩) (by show w.heap.size ≤ w.heap.size + 1; omega) _).setCell (p := ⟨w.heap.size + 1, 1, none⟩) (by show w.heap.size ≤ w.heap.size + 1; omega) _⟩
end
end Go.Proofs.YtbahehmfhjkgeaaGreat

/-
  A device of one filter, twinned; without one of its rules.
-/
namespace Go.Proofs.YtbahehmfhjkgeaaGreat
open Go Go.RowKit Go.ChangeMaps Go.MapKept Go.Maps Go.Lib Go.Sort

section
set_option maxRecDepth 100000
set_option maxHeartbeats 4000000
theorem Tryz.infoFiltL : (Tryz.prog.info? 24).map (fun i => (i.zero, i.size, i.bytes)) = some (some (.agg #[.string ByteArray.empty, .slice none 0 0]), 2, 40) := by kernel_rfl
theorem below_of_grown {w w' : World} (h : w.grownBy w' none) : Below w.heap.size w w' := ⟨h.os, h.tape, h.output, h.size, fun i hi => h.block i hi (by simp)⟩
/-- One filter, made anew. -/
theorem eachF_any (w : World) (nm : ByteArray) (L : List RuleV) (vL : Value) (hL : Rd w w.heap.size 10 vL L.length (rcells L)) (hl : L.length ≤ 1000) (b c : Nat) (h0 : w.cell? ⟨b, 0, none⟩ = some (.string nm)) (h1 : w.cell? ⟨b, 1, none⟩ = some vL) :
    Calls Tryz.prog 126 #[.slice (some ⟨b, 0, none⟩) 1 c, .func (.func 127) #[] #[]] w fun e w' => ∃ v v', e = .returned v ∧ w'.ownsRow w.heap.size 24 2 v 1 [.string nm, v'] ∧ w'.ownsRow w.heap.size 43 10 v' L.length (rcells L) ∧ Below w.heap.size w w' := by
  obtain ⟨i0, hif, hz0, hz1, hz2⟩ := info_parts Tryz.infoFiltL
  obtain ⟨PL, cL, rfl, _⟩ := hL.form
  have HL := Lib.hid hL
  clear hL
  go_enter Tryz.func126, Tryz.ntmps126
  go_wp2
  go_loopw [5, 10] (fun r i wr => (r = .slice none 0 0 ∧ i = .int .i64 0 ∧ wr = w) ∨ (i = .int .i64 1 ∧ ∃ v', Hid (wr.ownsRow w.heap.size 24 2 r 1 [.string nm, v'] ∧ wr.ownsRow w.heap.size 43 10 v' L.length (rcells L) ∧ Below w.heap.size w wr))) (fun _ i _ => 1 - (intOf i).toNat)
  case atStart => exact .inl ⟨rfl, rfl, rfl⟩
  case round =>
    rcases hrel with ⟨rfl, rfl, rfl⟩ | ⟨rfl, v', HR⟩
    · go_upto_region 5 with fail
      have hb := below1 wr (.cells #[.string nm, .slice PL L.length cL] 24)
      have hk := blk1 wr (.cells #[.string nm, .slice PL L.length cL] 24)
      have hTW := twinF_any _ nm L _ ((HL.out.below hb).mono hb.size) hl
      have HB := Lib.hid hb
      have HTW := Lib.hid hTW
      have d0 : (wr.alloc (.cells #[.string nm, .slice PL L.length cL] 24)).cell? ⟨wr.heap.size, 0, none⟩ = some (.string nm) := cell_of_row _ _ 0 _ _ (0, 0) hk
      have d1 : (wr.alloc (.cells #[.string nm, .slice PL L.length cL] 24)).cell? ⟨wr.heap.size, 1, none⟩ = some (.slice PL L.length cL) := cell_of_row _ _ 1 _ _ (0, 0) hk
      clear hb hk hTW
      have hsz : (wr.alloc (.cells #[.string nm, .slice PL L.length cL] 24)).heap.size = wr.heap.size + 1 := by simp
      generalize wr.alloc (.cells #[.string nm, .slice PL L.length cL] 24) = w1 at *
      go_wp2_with (first
        | ((with_reducible refine HTW.out.mono ?_); rintro e w2 ⟨v2, rfl, ho2, hb2⟩; obtain ⟨A2, c2, rfl, _⟩ := owns_form ho2; have HO2 := Lib.hid ho2; have HB2 := Lib.hid hb2; clear ho2 hb2)
        | (at_builtin; have hbs : wr.heap.size ≤ w2.heap.size := (by have := HB2.out.size; omega); refine wpList_push2 (v := .slice none 0 0) rfl _ _ 53 rfl 24 i0 _ 2 40 Tryz.underlying53 hif hz0 hz1 hz2 rfl (by decide) (by decide) [.string nm, .slice A2 L.length c2] rfl rfl rfl (owns_nil w2 wr.heap.size 24 2) rfl (by intro u hu; simp only [List.mem_cons, List.not_mem_nil, or_false] at hu; rcases hu with rfl | rfl <;> rfl) (by omega) hbs ?_; intro v3 w3 ho3 hg3 _; have HO3 := Lib.hid ho3; have HR3 := Lib.hid (owns_kept_none HO2.out hg3); have HB3 := Lib.hid (HB.out.trans ((HB2.out.trans ((below_of_grown hg3).mono HB2.out.size)).mono HB.out.size)); clear ho3 hg3))
      exact ⟨.inr ⟨rfl, _, Lib.hid ⟨HO3.out, owns_base HR3.out (by omega), HB3.out⟩⟩, by simp only [intOf]; omega⟩
    · go_wp2
      go_ret
      exact ⟨_, _, rfl, HR.out⟩
/-- Where a filter of the name stands: the first is it. -/
theorem nameEq_any (w : World) (nm : ByteArray) (v : Value) (q i : Int) (bf : Nat) (h1 : w.heap[bf]? = some (.cells #[.int .i64 q, .string nm, .int .i64 i] 65 (0, 0))) :
    Calls Tryz.prog 59 #[.agg #[.string nm, v], .pointer (some ⟨bf, 0, none⟩)] w fun e w' => e = .returned (.bool true) ∧ Below w.heap.size w w' := by
  have hb := below1 w (.cells #[.string nm, v] 24)
  have hk := blk1 w (.cells #[.string nm, v] 24)
  have d1 : (w.alloc (.cells #[.string nm, v] 24)).cell? ⟨bf, 1, none⟩ = some (.string nm) := cell_of_row _ _ 1 _ _ (0, 0) (blk_below hb h1)
  have d0 : (w.alloc (.cells #[.string nm, v] 24)).cell? ⟨w.heap.size, 0, none⟩ = some (.string nm) := cell_of_row _ _ 0 _ _ (0, 0) hk
  have HB := Lib.hid hb
  clear hb hk h1
  go_enter Tryz.func59, Tryz.ntmps59
  go_upto_region 1 with fail
  generalize w.alloc (.cells #[.string nm, v] 24) = w1 at *
  go_wp2
  go_ret
  exact ⟨by simp, HB.out⟩
theorem idxF_any (w : World) (nm : ByteArray) (v2 : Value) (b c bf : Nat) (q i : Int) (h0 : w.cell? ⟨b, 0, none⟩ = some (.string nm)) (h1 : w.cell? ⟨b, 1, none⟩ = some v2) (hf : w.heap[bf]? = some (.cells #[.int .i64 q, .string nm, .int .i64 i] 65 (0, 0))) :
    Calls Tryz.prog 58 #[.slice (some ⟨b, 0, none⟩) 1 c, .func (.func 59) #[] #[.pointer (some ⟨bf, 0, none⟩)]] w fun e w' => e = .returned (.int .i64 0) ∧ Below w.heap.size w w' := by
  have HNE := Lib.hid (nameEq_any w nm v2 q i bf hf)
  clear hf
  go_enter Tryz.func58, Tryz.ntmps58
  go_wp2
  go_loopw [5, 8] (fun r i wr => i = .int .i64 0 ∧ wr = w) (fun _ _ _ => 0)
  case atStart => exact ⟨rfl, rfl⟩
  case round =>
    obtain ⟨rfl, rfl⟩ := hrel
    go_wp2_with ((with_reducible refine HNE.out.mono ?_); rintro e w2 ⟨rfl, hb2⟩; have HB2 := Lib.hid hb2; clear hb2)
    go_ret
    exact ⟨rfl, HB2.out⟩
/-- A list of rules without one of them. -/
theorem butR_any (w : World) (L : List RuleV) (vL : Value) (hL : Rd w w.heap.size 10 vL L.length (rcells L)) (hl : L.length ≤ 1000) (i : Nat) (hi : i < L.length) :
    Calls Tryz.prog 61 #[vL, .int .i64 i] w fun e w' => ∃ v', e = .returned v' ∧ w'.ownsRow w.heap.size 43 10 v' (L.take i ++ L.drop (i + 1)).length (rcells (L.take i ++ L.drop (i + 1))) ∧ Below w.heap.size w w' := by
  obtain ⟨PL, cL, rfl, _⟩ := hL.form
  have HCL := Lib.hid (cloneRuleL_any L _ w hL hl)
  have hI1 : ¬ (i : Int) < 0 := by omega
  have hI2 : ¬ (i : Int) ≥ (L.length : Int) := by omega
  clear hL
  go_enter Tryz.func61, Tryz.ntmps61
  go_upto_region 2 with ((with_reducible refine HCL.out.mono ?_); rintro e w2 ⟨v2, rfl, ho2, hb2⟩; have HDE := Lib.hid (deleteR_any L v2 w.heap.size w.heap.size w2 i ho2 hi hl (Nat.le_refl _)); obtain ⟨A2, c2, rfl, _⟩ := owns_form ho2; have HB2 := Lib.hid hb2; clear ho2 hb2)
  clear HCL
  go_wp2_with ((with_reducible refine HDE.out.mono ?_); rintro e w3 ⟨v3, rfl, ho3, hb3⟩; have HO3 := Lib.hid ho3; have HB3 := Lib.hid (HB2.out.trans hb3); clear ho3 hb3)
  go_ret
  exact ⟨_, rfl, HO3.out, HB3.out⟩
end
end Go.Proofs.YtbahehmfhjkgeaaGreat

/-
  The twin of a device of one filter; the device without one rule of it.
-/
namespace Go.Proofs.YtbahehmfhjkgeaaGreat
open Go Go.RowKit Go.ChangeMaps Go.MapKept Go.Maps Go.Lib Go.Sort

section
set_option maxRecDepth 100000
set_option maxHeartbeats 4000000
theorem there_blk {w : World} {g : Nat} {cs : Array Value} {t : TypeId} (h : w.heap[g]? = some (.cells cs t (0, 0))) : w.there g 0 cs.size := fun j hj => by
  rw [Nat.zero_add]
  refine ⟨?_, frozen_of_row _ _ j _ _ h⟩
  rw [cell_of_row _ _ j _ _ (0, 0) h, Array.getElem?_eq_getElem hj]
  rfl
theorem owns_setsL {base n k g : Nat} {e : TypeId} {v : Value} {xs : List Value} (_ : g = g) (hg : g < base) : ∀ (vs : List Value) (o : Nat) (w : World), w.ownsRow base e k v n xs → (w.setCells g o vs).ownsRow base e k v n xs
  | [], _, _, h => h
  | u :: r, o, w, h => by
    rw [World.setCells]
    exact owns_setsL rfl hg r (o + 1) _ (owns_setL h hg)
theorem cloneStr_nilB (w : World) : Calls Tryz.prog 122 #[.slice none 0 0] w fun e w' => e = .returned (.slice none 0 0) ∧ Below w.heap.size w w' := (AnyE.slices_Clone_nil Tryz.cloneStr 0 0 w).mono fun e w' ⟨he, hw⟩ => ⟨he, by subst hw; exact Below.refl _ _⟩
theorem cloneIface_nilB (w : World) : Calls Tryz.prog 123 #[.slice none 0 0] w fun e w' => e = .returned (.slice none 0 0) ∧ Below w.heap.size w w' := (AnyE.slices_Clone_nil Tryz.cloneIface 0 0 w).mono fun e w' ⟨he, hw⟩ => ⟨he, by subst hw; exact Below.refl _ _⟩
theorem cloneRewrite_nilB (w : World) : Calls Tryz.prog 124 #[.slice none 0 0] w fun e w' => e = .returned (.slice none 0 0) ∧ Below w.heap.size w w' := (AnyE.slices_Clone_nil Tryz.cloneRewrite 0 0 w).mono fun e w' ⟨he, hw⟩ => ⟨he, by subst hw; exact Below.refl _ _⟩
theorem cloneStatic_nilB (w : World) : Calls Tryz.prog 125 #[.slice none 0 0] w fun e w' => e = .returned (.slice none 0 0) ∧ Below w.heap.size w w' := (AnyE.slices_Clone_nil Tryz.cloneStatic 0 0 w).mono fun e w' ⟨he, hw⟩ => ⟨he, by subst hw; exact Below.refl _ _⟩
theorem twin_any (w : World) (nm : ByteArray) (L : List RuleV) (vL : Value) (hL : Rd w w.heap.size 10 vL L.length (rcells L)) (hl : L.length ≤ 1000) (b c : Nat) (h0 : w.cell? ⟨b, 0, none⟩ = some (.string nm)) (h1 : w.cell? ⟨b, 1, none⟩ = some vL) :
    Calls Tryz.prog 57 #[.agg #[.string ⟨#[]⟩, .int .u8 0, .slice none 0 0, .slice none 0 0, .slice (some ⟨b, 0, none⟩) 1 c, .slice none 0 0, .slice none 0 0, .slice none 0 0, .slice none 0 0, .slice none 0 0, .slice none 0 0, .slice none 0 0]] w fun e w' => ∃ v v', e = .returned (.agg #[.string ⟨#[]⟩, .int .u8 0, .slice none 0 0, .slice none 0 0, v, .slice none 0 0, .slice none 0 0, .slice none 0 0, .slice none 0 0, .slice none 0 0, .slice none 0 0, .slice none 0 0]) ∧ w'.ownsRow w.heap.size 24 2 v 1 [.string nm, v'] ∧ w'.ownsRow w.heap.size 43 10 v' L.length (rcells L) ∧ Below w.heap.size w w' := by
  have hb0 := below2 w (.cells #[.string ⟨#[]⟩, .int .u8 0, .slice none 0 0, .slice none 0 0, .slice (some ⟨b, 0, none⟩) 1 c, .slice none 0 0, .slice none 0 0, .slice none 0 0, .slice none 0 0, .slice none 0 0, .slice none 0 0, .slice none 0 0] 62) (.cells #[.string ⟨#[]⟩, .int .u8 0, .slice none 0 0, .slice none 0 0, .slice none 0 0, .slice none 0 0, .slice none 0 0, .slice none 0 0, .slice none 0 0, .slice none 0 0, .slice none 0 0, .slice none 0 0] 62)
  obtain ⟨k0, k1⟩ := blk2 w (.cells #[.string ⟨#[]⟩, .int .u8 0, .slice none 0 0, .slice none 0 0, .slice (some ⟨b, 0, none⟩) 1 c, .slice none 0 0, .slice none 0 0, .slice none 0 0, .slice none 0 0, .slice none 0 0, .slice none 0 0, .slice none 0 0] 62) (.cells #[.string ⟨#[]⟩, .int .u8 0, .slice none 0 0, .slice none 0 0, .slice none 0 0, .slice none 0 0, .slice none 0 0, .slice none 0 0, .slice none 0 0, .slice none 0 0, .slice none 0 0, .slice none 0 0] 62)
  have HL := Lib.hid ((hL.below hb0).mono hb0.size)
  have HB := Lib.hid hb0
  have K0 := Lib.hid k0
  have K1 := Lib.hid k1
  have H0 := Lib.hid ((hb0.cell (p := ⟨b, 0, none⟩) (World.block_lt_of_cell? _ _ h0)).trans h0)
  have H1 := Lib.hid ((hb0.cell (p := ⟨b, 1, none⟩) (World.block_lt_of_cell? _ _ h1)).trans h1)
  clear hb0 k0 k1 hL h0 h1
  go_enter Tryz.func57, Tryz.ntmps57
  go_upto_region 1 with fail
  have hsz : ((w.alloc (.cells #[.string ⟨#[]⟩, .int .u8 0, .slice none 0 0, .slice none 0 0, .slice (some ⟨b, 0, none⟩) 1 c, .slice none 0 0, .slice none 0 0, .slice none 0 0, .slice none 0 0, .slice none 0 0, .slice none 0 0, .slice none 0 0] 62)).alloc (.cells #[.string ⟨#[]⟩, .int .u8 0, .slice none 0 0, .slice none 0 0, .slice none 0 0, .slice none 0 0, .slice none 0 0, .slice none 0 0, .slice none 0 0, .slice none 0 0, .slice none 0 0, .slice none 0 0] 62)).heap.size = w.heap.size + 2 := by simp
  generalize (w.alloc (.cells #[.string ⟨#[]⟩, .int .u8 0, .slice none 0 0, .slice none 0 0, .slice (some ⟨b, 0, none⟩) 1 c, .slice none 0 0, .slice none 0 0, .slice none 0 0, .slice none 0 0, .slice none 0 0, .slice none 0 0, .slice none 0 0] 62)).alloc (.cells #[.string ⟨#[]⟩, .int .u8 0, .slice none 0 0, .slice none 0 0, .slice none 0 0, .slice none 0 0, .slice none 0 0, .slice none 0 0, .slice none 0 0, .slice none 0 0, .slice none 0 0, .slice none 0 0] 62) = w1 at *
  have c2 : w1.cell? ⟨w.heap.size, 2, none⟩ = some (.slice none 0 0) := cell_of_row _ _ 2 _ _ (0, 0) K0.out
  have c3 : w1.cell? ⟨w.heap.size, 3, none⟩ = some (.slice none 0 0) := cell_of_row _ _ 3 _ _ (0, 0) K0.out
  have c5 : w1.cell? ⟨w.heap.size, 5, none⟩ = some (.slice none 0 0) := cell_of_row _ _ 5 _ _ (0, 0) K0.out
  have c6 : w1.cell? ⟨w.heap.size, 6, none⟩ = some (.slice none 0 0) := cell_of_row _ _ 6 _ _ (0, 0) K0.out
  have hnil : ∀ i, (#[.string ⟨#[]⟩, .int .u8 0, .slice none 0 0, .slice none 0 0, .slice (some ⟨b, 0, none⟩) 1 c, .slice none 0 0, .slice none 0 0, .slice none 0 0, .slice none 0 0, .slice none 0 0, .slice none 0 0, .slice none 0 0] : Array Value)[i]? = some (.slice none 0 0) → ∀ W, (∃ p : Regrown, W = grow (redrawn w1 p.d) p.os) → W.cell? ⟨w.heap.size, i, none⟩ = some (.slice none 0 0) ∧ W.frozen? ⟨w.heap.size, i, none⟩ = false ∧ W.setCell ⟨w.heap.size, i, none⟩ (.slice none 0 0) = W := fun i hi W ⟨p, hp⟩ => by
    have hb := below_regrown w1 p.d p.os
    rw [← hp] at hb
    have hk := blk_below hb K0.out
    exact ⟨(cell_of_row _ _ i _ _ (0, 0) hk).trans hi, frozen_of_row _ _ i _ _ hk, setCell_id _ _ i _ _ _ _ hk hi⟩
  have HNIL := Lib.hid hnil
  clear hnil
  have HC1 := Lib.hid cloneStr_nilB
  have HC2 := Lib.hid cloneIface_nilB
  have HC3 := Lib.hid cloneRewrite_nilB
  have HC4 := Lib.hid cloneStatic_nilB
  have g2 := cell_regrown c2
  have g3 := cell_regrown c3
  have g5 := cell_regrown c5
  have g6 := cell_regrown c6
  clear c2 c3 c5 c6
  refine wp_region_quiet_below (by kernel_rfl) (by kernel_rfl) ?_
  repeat (first | go_big_quiet_step (first | (with_reducible exact Calls.regrown_of (HC1.out _)) | (with_reducible exact Calls.regrown_of (HC2.out _)) | (with_reducible exact Calls.regrown_of (HC3.out _)) | (with_reducible exact Calls.regrown_of (HC4.out _))) | quiet_step (first | (with_reducible exact Calls.regrown_of (HC1.out _)) | (with_reducible exact Calls.regrown_of (HC2.out _)) | (with_reducible exact Calls.regrown_of (HC3.out _)) | (with_reducible exact Calls.regrown_of (HC4.out _))))
  refine wpQuiet_step (fun K hK => ?_)
  refine quiet_store_id (by simp [Region.wanted]) _ _ _ rfl w.heap.size 2 rfl (.slice none 0 0) rfl (fun w => by kernel_rfl) rfl rfl (HNIL.out 2 rfl) ?_
  refine hK _ ?_
  clear hK K
  dsimp only [Act.put]
  go_big_quiet_step (fail)
  refine wpQuiet_step (fun K hK => ?_)
  refine quiet_store_id (by simp [Region.wanted]) _ _ _ rfl w.heap.size 3 rfl (.slice none 0 0) rfl (fun w => by kernel_rfl) rfl rfl (HNIL.out 3 rfl) ?_
  refine hK _ ?_
  clear hK K
  dsimp only [Act.put]
  go_big_quiet_step (fail)
  refine wpQuiet_step (fun K hK => ?_)
  refine quiet_store_id (by simp [Region.wanted]) _ _ _ rfl w.heap.size 5 rfl (.slice none 0 0) rfl (fun w => by kernel_rfl) rfl rfl (HNIL.out 5 rfl) ?_
  refine hK _ ?_
  clear hK K
  dsimp only [Act.put]
  go_big_quiet_step (fail)
  refine wpQuiet_step (fun K hK => ?_)
  refine quiet_store_id (by simp [Region.wanted]) _ _ _ rfl w.heap.size 6 rfl (.slice none 0 0) rfl (fun w => by kernel_rfl) rfl rfl (HNIL.out 6 rfl) ?_
  refine hK _ ?_
  clear hK K
  dsimp only [Act.put]
  refine wpQuiet_nil ?_
  intro w2 hw2
  have hb2 : Below w1.heap.size w1 w2 := by
    obtain ⟨p, rfl⟩ := hw2
    exact below_regrown _ _ _
  clear hw2 g2 g3 g5 g6 HNIL HC1 HC2 HC3 HC4
  have HE := Lib.hid (eachF_any w2 nm L vL ((HL.out.below hb2).mono hb2.size) hl b c ((hb2.cell (p := ⟨b, 0, none⟩) (World.block_lt_of_cell? _ _ H0.out)).trans H0.out) ((hb2.cell (p := ⟨b, 1, none⟩) (World.block_lt_of_cell? _ _ H1.out)).trans H1.out))
  have J0 := Lib.hid (blk_below hb2 K0.out)
  have J1 := Lib.hid (blk_below hb2 K1.out)
  have HB2 := Lib.hid (HB.out.trans (hb2.mono HB.out.size))
  have hs2 : w.heap.size + 2 ≤ w2.heap.size := by have := hb2.size; omega
  clear hb2 K0 K1 HB H0 H1 HL
  have d4 : w2.cell? ⟨w.heap.size, 4, none⟩ = some (.slice (some ⟨b, 0, none⟩) 1 c) := cell_of_row _ _ 4 _ _ (0, 0) J0.out
  go_upto_region 3 with ((with_reducible refine HE.out.mono ?_); rintro e w3 ⟨v3, v4, rfl, ho3, hr3, hb3⟩; obtain ⟨A3, c3, rfl, _⟩ := owns_form ho3; have f4 := frozen_of_row _ _ 4 _ _ (blk_below hb3 J0.out); have e4 : w3.cell? ⟨w.heap.size, 4, none⟩ = some (.slice (some ⟨b, 0, none⟩) 1 c) := cell_of_row _ _ 4 _ _ (0, 0) (blk_below hb3 J0.out); have HO3 := Lib.hid ho3; have HR3 := Lib.hid hr3; have HB3 := Lib.hid hb3; clear ho3 hr3 hb3)
  have G0 : Hid ((w3.setCell ⟨w.heap.size, 4, none⟩ (.slice A3 1 c3)).heap[w.heap.size]? = some (.cells #[.string ⟨#[]⟩, .int .u8 0, .slice none 0 0, .slice none 0 0, .slice A3 1 c3, .slice none 0 0, .slice none 0 0, .slice none 0 0, .slice none 0 0, .slice none 0 0, .slice none 0 0, .slice none 0 0] 62 (0, 0))) := Lib.hid (set_at (i := 4) (u := .slice A3 1 c3) (blk_below HB3.out J0.out))
  have G1 := Lib.hid (set_far (p := ⟨w.heap.size, 4, none⟩) (u := .slice A3 1 c3) (blk_below HB3.out J1.out) (by show w.heap.size + 1 ≠ w.heap.size; omega))
  have HO4 := Lib.hid (owns_setL (i := 4) (u := .slice A3 1 c3) HO3.out (show w.heap.size < w2.heap.size by omega))
  have HR4 := Lib.hid (owns_setL (i := 4) (u := .slice A3 1 c3) HR3.out (show w.heap.size < w2.heap.size by omega))
  have HB4 := Lib.hid ((HB2.out.trans (HB3.out.mono HB2.out.size)).setCell (p := ⟨w.heap.size, 4, none⟩) (Nat.le_refl _) (.slice A3 1 c3))
  clear f4 e4 d4 HE HO3 HR3 HB3 HB2 J0 J1
  generalize w3.setCell ⟨w.heap.size, 4, none⟩ (.slice A3 1 c3) = w4 at *
  have i7 : w4.setCell ⟨w.heap.size, 7, none⟩ (.slice none 0 0) = w4 := setCell_id _ _ 7 _ _ _ _ G0.out rfl
  have d7 : w4.cell? ⟨w.heap.size, 7, none⟩ = some (.slice none 0 0) := cell_of_row _ _ 7 _ _ (0, 0) G0.out
  have f7 := frozen_of_row _ _ 7 _ _ G0.out
  have i8 : w4.setCell ⟨w.heap.size, 8, none⟩ (.slice none 0 0) = w4 := setCell_id _ _ 8 _ _ _ _ G0.out rfl
  have d8 : w4.cell? ⟨w.heap.size, 8, none⟩ = some (.slice none 0 0) := cell_of_row _ _ 8 _ _ (0, 0) G0.out
  have f8 := frozen_of_row _ _ 8 _ _ G0.out
  have i9 : w4.setCell ⟨w.heap.size, 9, none⟩ (.slice none 0 0) = w4 := setCell_id _ _ 9 _ _ _ _ G0.out rfl
  have d9 : w4.cell? ⟨w.heap.size, 9, none⟩ = some (.slice none 0 0) := cell_of_row _ _ 9 _ _ (0, 0) G0.out
  have f9 := frozen_of_row _ _ 9 _ _ G0.out
  have i10 : w4.setCell ⟨w.heap.size, 10, none⟩ (.slice none 0 0) = w4 := setCell_id _ _ 10 _ _ _ _ G0.out rfl
  have d10 : w4.cell? ⟨w.heap.size, 10, none⟩ = some (.slice none 0 0) := cell_of_row _ _ 10 _ _ (0, 0) G0.out
  have f10 := frozen_of_row _ _ 10 _ _ G0.out
  have i11 : w4.setCell ⟨w.heap.size, 11, none⟩ (.slice none 0 0) = w4 := setCell_id _ _ 11 _ _ _ _ G0.out rfl
  have d11 : w4.cell? ⟨w.heap.size, 11, none⟩ = some (.slice none 0 0) := cell_of_row _ _ 11 _ _ (0, 0) G0.out
  have f11 := frozen_of_row _ _ 11 _ _ G0.out
  have HN1 := Lib.hid fun f => eachPrefixList_nil f w4
  have HN2 := Lib.hid fun f => eachCommunityList_nil f w4
  have HN3 := Lib.hid fun f => eachPolicy_nil f w4
  have HN4 := Lib.hid fun f => eachOSPF_nil f w4
  have HN5 := Lib.hid fun f => eachBGP_nil f w4
  go_upto_region 8 with (first | ((with_reducible refine (HN1.out _).mono ?_); rintro e w5 ⟨rfl, hw5⟩; subst hw5) | ((with_reducible refine (HN2.out _).mono ?_); rintro e w5 ⟨rfl, hw5⟩; subst hw5) | ((with_reducible refine (HN3.out _).mono ?_); rintro e w5 ⟨rfl, hw5⟩; subst hw5) | ((with_reducible refine (HN4.out _).mono ?_); rintro e w5 ⟨rfl, hw5⟩; subst hw5) | ((with_reducible refine (HN5.out _).mono ?_); rintro e w5 ⟨rfl, hw5⟩; subst hw5))
  have d0 : w5.cell? ⟨w.heap.size, 0, none⟩ = some (.string ⟨#[]⟩) := cell_of_row _ _ 0 _ _ (0, 0) G0.out
  have d1 : w5.cell? ⟨w.heap.size, 1, none⟩ = some (.int .u8 0) := cell_of_row _ _ 1 _ _ (0, 0) G0.out
  have d2 : w5.cell? ⟨w.heap.size, 2, none⟩ = some (.slice none 0 0) := cell_of_row _ _ 2 _ _ (0, 0) G0.out
  have d3 : w5.cell? ⟨w.heap.size, 3, none⟩ = some (.slice none 0 0) := cell_of_row _ _ 3 _ _ (0, 0) G0.out
  have d5 : w5.cell? ⟨w.heap.size, 5, none⟩ = some (.slice none 0 0) := cell_of_row _ _ 5 _ _ (0, 0) G0.out
  have d6 : w5.cell? ⟨w.heap.size, 6, none⟩ = some (.slice none 0 0) := cell_of_row _ _ 6 _ _ (0, 0) G0.out
  have d4 : w5.cell? ⟨w.heap.size, 4, none⟩ = some (.slice A3 1 c3) := cell_of_row _ _ 4 _ _ (0, 0) G0.out
  clear i7 i8 i9 i10 i11 f7 f8 f9 f10 f11 HN1 HN2 HN3 HN4 HN5
  have HTH := Lib.hid (there_blk G1.out)
  go_wp2_with (refine wpList_store_mid rfl 62 _ _ rfl (w.heap.size + 1) 0 #[.string ⟨#[]⟩, .int .u8 0, .slice none 0 0, .slice none 0 0, .slice A3 1 c3, .slice none 0 0, .slice none 0 0, .slice none 0 0, .slice none 0 0, .slice none 0 0, .slice none 0 0, .slice none 0 0] ?qa ?qb ?qc ?qd ?qe ?_)
  case qa => rfl
  case qb => rfl
  case qc => exact HTH.out
  case qd => kernel_rfl
  case qe => exact all_oneCell_toArray (by intro u hu; simp only [List.mem_cons, List.not_mem_nil, or_false] at hu; rcases hu with rfl | rfl | rfl | rfl | rfl | rfl | rfl | rfl | rfl | rfl | rfl | rfl <;> rfl)
  have K6 := setCells_splice w5 (w.heap.size + 1) 0 62 _ (#[.string ⟨#[]⟩, .int .u8 0, .slice none 0 0, .slice none 0 0, .slice A3 1 c3, .slice none 0 0, .slice none 0 0, .slice none 0 0, .slice none 0 0, .slice none 0 0, .slice none 0 0, .slice none 0 0] : Array Value).toList G1.out (Nat.le_refl _) (by intro u hu; simp only [List.mem_cons, List.not_mem_nil, or_false] at hu; rcases hu with rfl | rfl | rfl | rfl | rfl | rfl | rfl | rfl | rfl | rfl | rfl | rfl <;> rfl)
  try simp only [Exit.inBlock, Exit.then]
  exact bodyPost_ret (results_cell_row Tryz.results57 _ _ (w.heap.size + 1) _ _ (0, 0) _ rfl K6 Tryz.underlying62 rfl (by kernel_rfl)) rfl ⟨_, _, rfl, owns_base (owns_setsL rfl (by omega) _ _ _ HO4.out) (by omega), owns_base (owns_setsL rfl (by omega) _ _ _ HR4.out) (by omega), below_setsL (w.heap.size + 1) (by omega) _ _ _ HB4.out⟩
end
end Go.Proofs.YtbahehmfhjkgeaaGreat

/-
  A region that draws its order, with a head whose operations are quiet in a class of worlds and a tail in one forced order: no program in sight.
-/
namespace Go.Proofs.YtbahehmfhjkgeaaGreat
open Go Go.Sort

section
variable {P : Program} {ops : Array Oper} {md : Region.Mode} {C : World → Prop}
/-- The head, in whatever order, up to L. -/
def headQ (P : Program) (md : Region.Mode) (ops : Array Oper) (C : World → Prop) (n : Nat) (L : Array Bool → Act → Prop) : Nat → Array Bool → Act → Prop
  | 0, listed, a => L listed a
  | f + 1, listed, a => Region.ready md ops listed ≠ [] ∧ ∀ i, i ∈ Region.ready md ops listed → i < n ∧ qOp P ops C i (headQ P md ops C n L f (listed.setIfInBounds i true)) a
theorem any_of_headQ {n g : Nat} {L : Array Bool → Act → Prop} {K : Exit → Act → World → Prop} (hL : ∀ listed a w, C w → L listed a → wpAny P md ops K g listed a w) :
    ∀ (f : Nat) (listed : Array Bool) (a : Act) (w : World), C w → headQ P md ops C n L f listed a → wpAny P md ops K (f + g) listed a w
  | 0, listed, a, w, hw, h => by rw [Nat.zero_add]; exact hL _ _ _ hw h
  | f + 1, listed, a, w, hw, h => by
    have e : f + 1 + g = (f + g) + 1 := by omega
    rw [e]
    refine ⟨fun hn => absurd hn h.1, fun i hi => wpOp_of_qOp hw (fun a' w' hw' h' => any_of_headQ hL f _ a' w' hw' h') (h.2 i hi).2⟩
/-- An operation of the head that is ready may be taken first. -/
theorem headQ_first {n i : Nat} {oi : Oper} {v : Value} {L : Array Bool → Act → Prop} (hi : ops[i]? = some oi) (hsel : ∀ (j : Nat) (o : Oper) cs b, ops[j]? = some o → o.op ≠ .select cs b)
    (hs : Region.sinkB md ops n = true) (hc : Region.chainB md ops n = true) (hn : n < ops.size) (hin : i < n) (hend : ∀ listed a, L listed a → ∀ j ∈ Region.ready md ops listed, n ≤ j)
    (f : Nat) : ∀ (listed : Array Bool) (a : Act), HeadInv md ops n listed →
      (∀ j oj, ops[j]? = some oj → j ≠ i → listed.getD j true = false → (∀ e ∈ oj.after, Region.binds md e = true → e.on ≠ i) → oi.apart ops oj = true) →
      i ∈ Region.ready md ops listed → YieldsIn P ops C oi v a → headQ P md ops C n L f (listed.setIfInBounds i true) (a.put oi.dst v) → headQ P md ops C n L (f + 1) listed a := by
  induction f with
  | zero =>
    intro listed a inv _ hr hy H
    have hlow : ∀ j ∈ Region.ready md ops listed, j < n := fun j hj => (Nat.lt_or_ge j n).elim id fun h => absurd hj (tail_waits hs hc hn inv _ i rfl hin (mem_ready.1 hr).1 j h)
    refine ⟨fun h => (by rw [h] at hr; cases hr), fun j hj => ⟨hlow j hj, ?_⟩⟩
    by_cases hji : j = i
    · subst hji
      exact hy.qOp hi H
    · have h1 := hend _ _ H j (ready_mono hj hji)
      have h2 := hlow j hj
      omega
  | succ f ih =>
    intro listed a inv hfree hr hy H
    have hun := (mem_ready.1 hr).1
    have hlow : ∀ j ∈ Region.ready md ops listed, j < n := fun j hj => (Nat.lt_or_ge j n).elim id fun h => absurd hj (tail_waits hs hc hn inv _ i rfl hin hun j h)
    refine ⟨fun h => (by rw [h] at hr; cases hr), fun j hj => ⟨hlow j hj, ?_⟩⟩
    by_cases hji : j = i
    · subst hji
      exact hy.qOp hi H
    · obtain ⟨hjun, oj, hoj, hall⟩ := mem_ready.1 hj
      have hnot : ∀ e ∈ oj.after, Region.binds md e = true → e.on ≠ i := by
        intro e he hb heq
        have h1 := hall e he hb
        rw [heq, getD_both hun] at h1
        cases h1
      have hput := qOp_put hoj (hfree j oj hoj hji hjun hnot) (fun cs b => hsel i oi cs b hi) (fun cs b => hsel j oj cs b hoj) hy (H.2 j (ready_mono hj hji)).2
      refine qOp_mono (fun a' h3 => ih (listed.setIfInBounds j true) a' (inv.set hj (hlow j hj)) ?_ (ready_mono hr (Ne.symm hji)) h3.1 ?_) hput
      · intro k ok hk hki hku hno
        refine hfree k ok hk hki ?_ hno
        by_cases hjk : j = k
        · subst hjk; exact hjun
        · rw [getD_set_ne true hjk] at hku; exact hku
      · rw [Array.setIfInBounds_comm _ _ hji]
        exact h3.2
theorem headQ_lex {n g : Nat} {Lq : Act → Prop} (hsel : Region.noSelect ops = true) (hs : Region.sinkB md ops n = true) (hc : Region.chainB md ops n = true) (hn : n < ops.size) :
    ∀ (l : List Oper) (k : Nat) (listed : Array Bool) (a : Act), (∀ j, j < l.length → l[j]? = ops[k + j]?) → k + l.length = n → HeadInv md ops n listed →
    Region.lexHead md ops g l.length k listed = true → wpQuiet P ops C Lq l a →
    headQ P md ops C n (fun listed' a' => Region.seqB md ops g n listed' = true ∧ Lq a') l.length listed a := by
  intro l
  induction l with
  | nil =>
    intro k listed a _ hk _ hB h
    obtain rfl : k = n := by simpa using hk
    exact ⟨by simpa [Region.lexHead] using hB, h⟩
  | cons o l ih =>
    intro k listed a hl hk inv hB h
    have h0 : ops[k]? = some o := by simpa using (hl 0 (by simp)).symm
    simp only [List.length_cons, Region.lexHead, Bool.and_eq_true] at hB
    obtain ⟨⟨hr, hf⟩, hB'⟩ := hB
    have hkn : k < n := by simp only [List.length_cons] at hk; omega
    have hr' : k ∈ Region.ready md ops listed := by simpa using hr
    obtain ⟨v, hy, hK⟩ := yieldsIn_of_qOp (C := C) (P := P) (K := wpQuiet P ops C Lq l) h0 (by unfold qOp; simp only [h0]; exact h)
    refine headQ_first h0 (Region.noSelect_spec hsel) hs hc hn hkn (fun listed' a' hL => seqB_ready hL.1) l.length listed a inv (Region.free_spec h0 hf) hr' hy (ih (k + 1) _ _ (fun j hj => ?_) (by simp only [List.length_cons] at hk; omega) (inv.set hr' hkn) hB' hK)
    have h1 := hl (j + 1) (by simp; omega)
    simpa [Nat.add_assoc, Nat.add_comm 1 j] using h1
/-- A head that is quiet in the class, then the tail in its order, in any world of the class. -/
theorem wp_region_quiet_tail {id : Nat} {Q : Exit → Act → World → Prop} {a : Act} {w : World} {l : List Oper} (n : Nat) (hm : P.follows .mixedOrders = true) (hB : Region.lexTailB .any l.toArray n = true) (hC : C { w with drawn := w.drawn + 1 })
    (h : wpQuiet P l.toArray C (fun a' => ∀ w', C w' → wpList P l.toArray Q (l.drop n) a' w') (l.take n) a) : (Code.region id l.toArray true).wp P Q a w := by
  simp only [Region.lexTailB, Bool.and_eq_true, decide_eq_true_eq] at hB
  obtain ⟨⟨⟨⟨hsel, hn⟩, hs⟩, hc⟩, hlex⟩ := hB
  have hn' : n < l.length := by simpa using hn
  have htl : (l.take n).length = n := by simp; omega
  have hdl : (l.drop n).length = l.toArray.size - n := by simp
  have inv0 : HeadInv .any l.toArray n (Array.replicate l.toArray.size false) :=
    ⟨by simp, fun j oj _ hl => (by rw [getD_replicate_false] at hl; cases hl), fun t _ ht => getD_in (by simpa using ht) (getD_replicate_false _ _)⟩
  have H := headQ_lex (C := C) (P := P) (md := .any) (g := l.toArray.size - n) hsel hs hc hn (l.take n) 0 (Array.replicate l.toArray.size false) a (fun j hj => by
    have hj' : j < n := by rw [htl] at hj; exact hj
    simp [hj']) (by simpa using htl) inv0 (by rw [htl]; exact hlex) h
  refine wp_region_any hm ?_
  have H2 := any_of_headQ (K := Q) (g := l.toArray.size - n) (fun listed a' w' hw' hL => by
    have h2 := wpAny_of_seq (P := P) (Q' := Q) (l.drop n) n listed a' w' (fun j => by simp) (by rw [hdl]; exact hL.1) (hL.2 w' hw')
    rw [hdl] at h2
    exact h2) (l.take n).length (Array.replicate l.toArray.size false) a { w with drawn := w.drawn + 1 } hC H
  have e : (l.take n).length + (l.toArray.size - n) = l.toArray.size := by rw [htl]; simp; omega
  rw [e] at H2
  exact H2
/-- The same at the class of the worlds that are drawn and grown. -/
theorem wp_region_tail_below {id : Nat} {Q : Exit → Act → World → Prop} {a : Act} {w : World} {l : List Oper} (n : Nat) (hm : P.follows .mixedOrders = true) (hB : Region.lexTailB .any l.toArray n = true)
    (h : wpQuiet P l.toArray (fun w' => ∃ p : Regrown, w' = grow (redrawn w p.d) p.os) (fun a' => ∀ w', (∃ p : Regrown, w' = grow (redrawn w p.d) p.os) → wpList P l.toArray Q (l.drop n) a' w') (l.take n) a) : (Code.region id l.toArray true).wp P Q a w :=
  wp_region_quiet_tail (C := fun w' => ∃ p : Regrown, w' = grow (redrawn w p.d) p.os) n hm hB ⟨⟨w.drawn + 1, #[]⟩, by rw [grow_empty]; rfl⟩ h
end
end Go.Proofs.YtbahehmfhjkgeaaGreat

/-
  A region that draws its order, walked in the order of the text: plain operations, each of which may be taken first, and barriers, each of which comes up alone: no program in sight.
-/
namespace Go.Proofs.YtbahehmfhjkgeaaGreat
open Go Go.RowKit Go.Sort

section
variable {P : Program} {ops : Array Oper} {md : Region.Mode} {S : World → Prop} {Q : Exit → Act → World → Prop}
/-- An operation that hands back a value, or stops. -/
def plainB : Op → Bool
  | .nilCheck _ => true
  | .call c => (match c.callee with | .builtin .min => true | _ => false)
  | .move _ | .assign _ | .pick _ _ _ | .load _ _ | .fieldAddr _ _ _ | .indexAddr _ _ _ | .binOp _ _ _ _ _ | .unOp _ _ _ | .convert _ _ _ | .build _ _ | .extract _ _ => true
  | _ => false
theorem then_value {α : Type} {r : Result α} {f : α → Value} {n : Go.Next} {w' : World} (h : (r.andThen fun x v => .ok (Go.Next.value (f x)) v) = .ok n w') : ∃ v, n = .value v := by
  cases r with
  | ok x v => simp only [Result.andThen_ok] at h; injection h with h _; exact ⟨_, h.symm⟩
  | halt x v => cases h
theorem nil_value {ρ : Operand → Value} {x : Operand} {w w' : World} {n : Go.Next} {d : Option Tmp} {ty : TypeId} {po : String} {af : Array Edge} {gu : Option (Nat × Bool)} (hr : (execOp ρ ⟨d, .nilCheck x, ty, po, af, gu⟩).run P w = .ok n w') : ∃ v, n = .value v := by
  simp only [execOp] at hr
  have bnd : ∀ {α β : Type} (m : Sem α) (f : α → Sem β) (w0 w1 : World) (y : β), (m >>= f).run P w0 = .ok y w1 → ∃ x w2, (f x).run P w2 = .ok y w1 := fun m f w0 w1 y h => by
    rw [Sem.run_bind] at h
    cases hm : m.run P w0 with
    | ok x w2 => rw [hm] at h; exact ⟨x, w2, h⟩
    | halt a b => rw [hm] at h; cases h
  have pan : ((runtimePanic .nilDeref : Sem Go.Next).run P w = .ok n w') → ∃ v, n = .value v := fun he => by
    unfold runtimePanic at he
    obtain ⟨x, w2, h2⟩ := bnd _ _ _ _ _ he
    have h3 : (goPanic (α := Go.Next) (Value.iface x.rt.errorString (strVal "invalid memory address or nil pointer dereference"))).run P w2 = .ok n w' := h2
    cases h3
  split at hr
  · exact pan hr
  · exact pan hr
  · exact pan hr
  · split at hr
    · exact pan hr
    · obtain ⟨x1, w1, h1⟩ := bnd _ _ _ _ _ hr
      obtain ⟨x2, w2, h2⟩ := bnd _ _ _ _ _ h1
      split at h2
      · obtain ⟨x3, w3, h3⟩ := bnd _ _ _ _ _ h2
        simp only [Sem.run_pure] at h3
        injection h3 with h3 _
        exact ⟨_, h3.symm⟩
      · simp only [Sem.run_pure] at h2
        injection h2 with h2 _
        exact ⟨_, h2.symm⟩
    · simp only [Sem.run_pure] at hr
      injection hr with hr _
      exact ⟨_, hr.symm⟩
  · simp only [Sem.run_pure] at hr
    injection hr with hr _
    exact ⟨_, hr.symm⟩
theorem min_value {ρ : Operand → Value} {c : Call} (hc : c.callee = .builtin .min) {w w' : World} {n : Go.Next} {d : Option Tmp} {ty : TypeId} {po : String} {af : Array Edge} {gu : Option (Nat × Bool)} (hr : (execOp ρ ⟨d, .call c, ty, po, af, gu⟩).run P w = .ok n w') : ∃ v, n = .value v := by
  simp only [execOp, resolve, hc, invoke, builtin, Sem.run_bind, Sem.run_pure, Result.andThen_ok] at hr
  exact then_value hr
theorem plain_value {o : Oper} (h : plainB o.op = true) {ρ : Operand → Value} {w w' : World} {n : Go.Next} (hr : (execOp ρ o).run P w = .ok n w') : ∃ v, n = .value v := by
  obtain ⟨dst, op, type, pos, after, guard⟩ := o
  cases op <;> simp only [plainB] at h
  all_goals first
    | (cases h; done)
    | (exact nil_value hr)
    | (split at h
       · rename_i hc
         exact min_value hc hr
       · cases h)
    | (simp only [execOp, Sem.run_bind, Sem.run_pure] at hr; first | exact then_value (f := fun x => x) hr | exact then_value hr | (injection hr with hr _; exact ⟨_, hr.symm⟩))
theorem yields_quiet {o : Oper} {a : Act} {K : Act → Prop} (h : plainB o.op = true) (hq : o.quiet P a S K) : ∃ v, (∀ w, S w → (execOp a.eval o).run P w = .ok (.value v) w) ∧ K (a.put o.dst v) := by
  obtain ⟨v, h1, h2⟩ := hq
  refine ⟨v, fun w hw => ?_, h2⟩
  have h3 := h1 w hw
  unfold Oper.quietAt at h3
  generalize hr : (execOp a.eval o).run P w = r at h3
  cases r with
  | ok n w' =>
    obtain ⟨u, rfl⟩ := plain_value h hr
    simp only [Oper.quietUpon] at h3
    rw [h3.1, h3.2]
  | halt x w' => simp only [Oper.quietUpon] at h3
/-- The region's edges bear this walk: a plain operation may be taken first, a barrier comes up alone. -/
def mixB (md : Region.Mode) (ops : Array Oper) : List (Nat × Bool) → Array Bool → Bool
  | [], listed => (Region.ready md ops listed).isEmpty
  | (k, false) :: m, listed => (Region.ready md ops listed).contains k && Region.free md ops listed k && (match ops[k]? with | some o => plainB o.op | none => false) && mixB md ops m (listed.setIfInBounds k true)
  | (k, true) :: m, listed => decide (Region.ready md ops listed = [k]) && mixB md ops m (listed.setIfInBounds k true)
/-- The walk; behind a barrier the class of worlds may be made narrower. -/
def mixW (P : Program) (ops : Array Oper) (Q : Exit → Act → World → Prop) : List (Nat × Bool) → (World → Prop) → Act → World → Prop
  | [], _, a, w => Q .normal a w
  | (k, false) :: m, S, a, w => ∃ o, ops[k]? = some o ∧ if Region.wanted o (yielded ops a.tmps) then o.quiet P a S (fun a' => mixW P ops Q m S a' w) else mixW P ops Q m S (a.put o.dst undef) w
  | (k, true) :: m, S, a, w => ∃ o, ops[k]? = some o ∧ if Region.wanted o (yielded ops a.tmps) then o.wp P a w (fun a' w' => ∃ S' : World → Prop, S' w' ∧ (∀ v, S' v → S v) ∧ mixW P ops Q m S' a' w') Q else mixW P ops Q m S (a.put o.dst undef) w
theorem wpAnyH_class {S S' : World → Prop} (h : ∀ v, S' v → S v) : ∀ (fuel : Nat) (listed : Array Bool) (a : Act) (w : World), wpAnyH P md ops Q S' fuel listed a w → wpAnyH P md ops Q S fuel listed a w
  | 0, _, _, _, hh => hh
  | f + 1, _, _, _, hh => ⟨hh.1, fun i hi => wpOp_mono (fun a' w' hk => ⟨h _ hk.1, wpAnyH_class h f _ a' w' hk.2⟩) (hh.2 i hi)⟩
theorem mix_sound (hs : Region.noSelect ops = true) (hQ : ∀ d v c a w, Q (.panic c) (Act.put a d v) w → Q (.panic c) a w) :
    ∀ (m : List (Nat × Bool)) (S : World → Prop) (listed : Array Bool) (a : Act) (w : World), mixB md ops m listed = true → S w → mixW P ops Q m S a w → wpAnyH P md ops Q S m.length listed a w := by
  intro m
  induction m with
  | nil =>
    intro S listed a w hB _ h
    exact ⟨by simpa [mixB] using hB, h⟩
  | cons b m ih =>
    intro S listed a w hB hS h
    obtain ⟨k, b⟩ := b
    cases b with
    | false =>
      simp only [mixW] at h
      obtain ⟨o, h0, h⟩ := h
      simp only [mixB, Bool.and_eq_true, h0] at hB
      obtain ⟨⟨⟨hr, hf⟩, hp⟩, hB'⟩ := hB
      by_cases hw : Region.wanted o (yielded ops a.tmps) = true
      · rw [if_pos hw] at h
        obtain ⟨v, hv, hK⟩ := yields_quiet hp h
        exact wpAnyH_take h0 hs hf hr (fun c a w => hQ o.dst v c a w) (.inl ⟨hw, hv⟩) hS (ih S _ _ w hB' hS hK)
      · rw [if_neg hw] at h
        exact wpAnyH_take h0 hs hf hr (fun c a w => hQ o.dst undef c a w) (.inr ⟨by simpa using hw, rfl⟩) hS (ih S _ _ w hB' hS h)
    | true =>
      simp only [mixW] at h
      obtain ⟨o, h0, h⟩ := h
      simp only [mixB, Bool.and_eq_true, decide_eq_true_eq] at hB
      obtain ⟨hr, hB'⟩ := hB
      refine wpAnyH_all hr (by simp) fun i hi => ?_
      obtain rfl : i = k := by simpa using hi
      unfold wpOp
      simp only [h0]
      by_cases hw : Region.wanted o (yielded ops a.tmps) = true
      · rw [if_pos hw] at h ⊢
        refine .inl (Oper.wp_mono (fun a' w' hh => ?_) h)
        obtain ⟨S', h1, h2, h3⟩ := hh
        exact ⟨h2 _ h1, wpAnyH_class h2 _ _ _ _ (ih S' _ a' w' hB' h1 h3)⟩
      · rw [if_neg hw] at h ⊢
        exact ⟨hS, ih S _ _ w hB' hS h⟩
/-- Some plain operations in a row, as a quiet walk. -/
theorem mix_seg {m : List (Nat × Bool)} : ∀ (ks : List Nat) (seg : List Oper) (a : Act) (w : World), ks.map (fun k => ops[k]?) = seg.map some → wpQuiet P ops S (fun a' => mixW P ops Q m S a' w) seg a → mixW P ops Q (ks.map (fun k => (k, false)) ++ m) S a w
  | [], [], _, _, _, h => h
  | [], _ :: _, _, _, hk, _ => by cases hk
  | _ :: _, [], _, _, hk, _ => by cases hk
  | k :: ks, o :: seg, a, w, hk, h => by
    simp only [List.map_cons] at hk
    injection hk with hk1 hk2
    have h' : (if Region.wanted o (yielded ops a.tmps) then o.quiet P a S (wpQuiet P ops S (fun a' => mixW P ops Q m S a' w) seg) else wpQuiet P ops S (fun a' => mixW P ops Q m S a' w) seg (a.put o.dst undef)) := h
    show ∃ o, ops[k]? = some o ∧ (if Region.wanted o (yielded ops a.tmps) then o.quiet P a S (fun a' => mixW P ops Q (ks.map (fun k => (k, false)) ++ m) S a' w) else mixW P ops Q (ks.map (fun k => (k, false)) ++ m) S (a.put o.dst undef) w)
    refine ⟨o, hk1, ?_⟩
    split
    · rename_i hw
      rw [if_pos hw] at h'
      exact Oper.quiet_mono (fun a' hh => mix_seg ks seg a' w hk2 hh) h'
    · rename_i hw
      rw [if_neg hw] at h'
      exact mix_seg ks seg _ w hk2 h'
def mixOk (l : List Oper) (m : List (Nat × Bool)) : Bool := Region.noSelect l.toArray && decide (m.length = l.length) && mixB .any l.toArray m (Array.replicate l.length false)
/-- The worlds that are W, drawn and grown. -/
@[reducible] def ClassOf (W : World) : World → Prop := fun w' => ∃ p : Regrown, w' = grow (redrawn W p.d) p.os
theorem wp_region_mix {id : Nat} {a : Act} {w : World} {l : List Oper} (m : List (Nat × Bool)) (hm : P.follows .mixedOrders = true) (hB : mixOk l m = true)
    (h : mixW P l.toArray (NoPanic Q) m (fun w' => ∃ p : Regrown, w' = grow (redrawn w p.d) p.os) a { w with drawn := w.drawn + 1 }) : (Code.region id l.toArray true).wp P Q a w := by
  simp only [mixOk, Bool.and_eq_true, decide_eq_true_eq] at hB
  obtain ⟨⟨hs, hlen⟩, hmix⟩ := hB
  refine wp_region_noPanic (wp_region_held (S := fun w' => ∃ p : Regrown, w' = grow (redrawn w p.d) p.os) hm ?_)
  have H := mix_sound (md := .any) hs (fun d v c a w hh => hh) m _ (Array.replicate l.length false) a { w with drawn := w.drawn + 1 } hmix ⟨⟨w.drawn + 1, #[]⟩, by rw [grow_empty]; rfl⟩ h
  rw [hlen] at H
  simpa using H
theorem mix_take {m m' : List (Nat × Bool)} {a : Act} {w : World} (ks : List Nat) (seg : List Oper) (hm : m = ks.map (fun k => (k, false)) ++ m') (hs : ks.map (fun k => ops[k]?) = seg.map some) (h : wpQuiet P ops S (fun a' => mixW P ops Q m' S a' w) seg a) : mixW P ops Q m S a w := by
  rw [hm]
  exact mix_seg ks seg a w hs h
/-- A barrier; the class as it is. -/
theorem mix_bar {m : List (Nat × Bool)} {k : Nat} {o : Oper} {a : Act} {w : World} (ho : ops[k]? = some o) (hw : Region.wanted o (yielded ops a.tmps) = true) (h : o.wp P a w (fun a' w' => S w' ∧ mixW P ops Q m S a' w') Q) : mixW P ops Q ((k, true) :: m) S a w := by
  simp only [mixW]
  refine ⟨o, ho, ?_⟩
  rw [if_pos hw]
  exact Oper.wp_mono (fun a' w' hh => ⟨S, hh.1, fun _ h => h, hh.2⟩) h
theorem mix_end {a : Act} {w : World} (h : Q .normal a w) : mixW P ops (NoPanic Q) [] S a w := h
theorem below_drawn (w : World) : Below w.heap.size w { w with drawn := w.drawn + 1 } := ⟨rfl, rfl, rfl, Nat.le_refl _, fun _ _ => rfl⟩
end
end Go.Proofs.YtbahehmfhjkgeaaGreat

/-
  A region that draws its order, walked in the order of the text: the class of worlds is any that the prover names. No program in sight.
-/
namespace Go.Proofs.YtbahehmfhjkgeaaGreat
open Go Go.RowKit Go.Sort

section
variable {P : Program} {ops : Array Oper} {Q : Exit → Act → World → Prop}
/-- The worlds that meet S. -/
structure InW (S : World → Prop) where
  w : World
  h : S w
@[reducible] def InS (S : World → Prop) : World → Prop := fun w' => ∃ p : InW S, w' = p.w
theorem inS {S : World → Prop} {w : World} (h : S w) : InS S w := ⟨⟨w, h⟩, rfl⟩
theorem inS_sub {S S' : World → Prop} (h : ∀ v, S' v → S v) : ∀ v, InS S' v → InS S v := by
  intro v hv
  obtain ⟨p, hp⟩ := hv
  exact ⟨⟨p.w, h _ p.h⟩, hp⟩
theorem wp_region_mixS {id : Nat} {a : Act} {w : World} {l : List Oper} (S : World → Prop) (m : List (Nat × Bool)) (hm : P.follows .mixedOrders = true) (hB : mixOk l m = true) (hS : S { w with drawn := w.drawn + 1 })
    (h : mixW P l.toArray (NoPanic Q) m (fun w' => ∃ p : InW S, w' = p.w) a { w with drawn := w.drawn + 1 }) : (Code.region id l.toArray true).wp P Q a w := by
  simp only [mixOk, Bool.and_eq_true, decide_eq_true_eq] at hB
  obtain ⟨⟨hs, hlen⟩, hmix⟩ := hB
  refine wp_region_noPanic (wp_region_held (S := InS S) hm ?_)
  have H := mix_sound (md := .any) hs (fun d v c a w hh => hh) m _ (Array.replicate l.length false) a { w with drawn := w.drawn + 1 } hmix (inS hS) h
  rw [hlen] at H
  simpa using H
/-- A barrier behind which the class may be narrower. -/
theorem mix_barS {m : List (Nat × Bool)} {k : Nat} {o : Oper} {a : Act} {S : World → Prop} {w : World} (ho : ops[k]? = some o) (hw : Region.wanted o (yielded ops a.tmps) = true)
    (h : o.wp P a w (fun a' w' => ∃ S' : World → Prop, S' w' ∧ (∀ v, S' v → S v) ∧ mixW P ops Q m (fun w' => ∃ p : InW S', w' = p.w) a' w') Q) : mixW P ops Q ((k, true) :: m) (fun w' => ∃ p : InW S, w' = p.w) a w := by
  simp only [mixW]
  refine ⟨o, ho, ?_⟩
  rw [if_pos hw]
  exact Oper.wp_mono (fun a' w' hh => by obtain ⟨S', h1, h2, h3⟩ := hh; exact ⟨_, inS h1, inS_sub h2, h3⟩) h
end
end Go.Proofs.YtbahehmfhjkgeaaGreat

/-
  A region that draws its order and whose last operation waits for all the others: the class of worlds need not bear that one. No program in sight.
-/
namespace Go.Proofs.YtbahehmfhjkgeaaGreat
open Go Go.RowKit Go.Sort

section
variable {P : Program} {ops : Array Oper} {md : Region.Mode} {S : World → Prop} {Q : Exit → Act → World → Prop} {z : Nat}
/-- All orders; the class holds behind each operation but z. -/
def allZ (P : Program) (md : Region.Mode) (ops : Array Oper) (Q : Exit → Act → World → Prop) (z : Nat) (S : World → Prop) : Nat → Array Bool → Act → World → Prop
  | 0, ls, a, w => Region.ready md ops ls = [] ∧ Q .normal a w
  | n + 1, ls, a, w => (Region.ready md ops ls = [] → Q .normal a w) ∧ ∀ i ∈ Region.ready md ops ls, wpOp P ops Q i (fun a' w' => (i ≠ z → S w') ∧ allZ P md ops Q z S n (ls.setIfInBounds i true) a' w') a w
theorem allZ_any : ∀ (n : Nat) (ls : Array Bool) (a : Act) (w : World), allZ P md ops Q z S n ls a w → wpAny P md ops Q n ls a w
  | 0, _, _, _, h => h
  | n + 1, _, _, _, h => ⟨h.1, fun i hi => wpOp_mono (fun _ _ hh => allZ_any n _ _ _ hh.2) (h.2 i hi)⟩
theorem allZ_class {S S' : World → Prop} (h : ∀ v, S' v → S v) : ∀ (n : Nat) (ls : Array Bool) (a : Act) (w : World), allZ P md ops Q z S' n ls a w → allZ P md ops Q z S n ls a w
  | 0, _, _, _, hh => hh
  | n + 1, _, _, _, hh => ⟨hh.1, fun i hi => wpOp_mono (fun _ _ hk => ⟨fun hz => h _ (hk.1 hz), allZ_class h n _ _ _ hk.2⟩) (hh.2 i hi)⟩
/-- z waits for all the others. -/
def lastZ (md : Region.Mode) (ops : Array Oper) (z : Nat) : Bool := (List.range ops.size).all fun k => k == z || (match ops[z]? with | some o => o.after.any fun e => Region.binds md e && e.on == k | none => false)
theorem lastZ_alone (h : lastZ md ops z = true) {ls : Array Bool} {i : Nat} (hz : z ∈ Region.ready md ops ls) (hi : i ∈ Region.ready md ops ls) : i = z := by
  obtain ⟨h0, oi, hoi, _⟩ := mem_ready.1 hi
  obtain ⟨_, oz, hoz, hall⟩ := mem_ready.1 hz
  have hlt : i < ops.size := (Array.getElem?_eq_some_iff.1 hoi).1
  have h1 := List.all_eq_true.1 h i (List.mem_range.2 hlt)
  simp only [hoz, Bool.or_eq_true, beq_iff_eq] at h1
  rcases h1 with h1 | h1
  · exact h1
  · obtain ⟨k, hk, h2⟩ := Array.any_eq_true.1 h1
    simp only [Bool.and_eq_true, beq_iff_eq] at h2
    have h3 := hall _ (Array.getElem_mem hk) h2.1
    rw [h2.2] at h3
    rcases Nat.lt_or_ge i ls.size with h' | h'
    · simp [h'] at h0 h3
      rw [h0] at h3
      cases h3
    · simp [Array.getElem?_eq_none h'] at h3
/-- A plain operation may be taken first. -/
theorem allZ_take (hz : lastZ md ops z = true) {i : Nat} {oi : Oper} {v : Value} (hi : ops[i]? = some oi) (hiz : i ≠ z) (hs : Region.noSelect ops = true) (hQ : ∀ c a w, Q (.panic c) (a.put oi.dst v) w → Q (.panic c) a w) :
    ∀ (n : Nat) (ls : Array Bool) (a : Act) (w : World),
      (∀ j oj, ops[j]? = some oj → j ≠ i → ls.getD j true = false → (∀ e ∈ oj.after, Region.binds md e = true → e.on ≠ i) → oi.apart ops oj = true) →
      i ∈ Region.ready md ops ls → YieldsIf P ops S oi v a → S w → allZ P md ops Q z S n (ls.setIfInBounds i true) (a.put oi.dst v) w → allZ P md ops Q z S (n + 1) ls a w := by
  have hsel := Region.noSelect_spec hs
  intro n
  induction n with
  | zero =>
    intro ls a w _ hr hy hS H
    refine ⟨fun h => (by rw [h] at hr; cases hr), fun j hj => ?_⟩
    by_cases hji : j = i
    · subst hji
      exact hy.wpOp hi hS ⟨fun _ => hS, H⟩
    · have h1 := ready_mono hj hji
      rw [H.1] at h1
      cases h1
  | succ n ih =>
    intro ls a w hfr hr hy hS H
    refine ⟨fun h => (by rw [h] at hr; cases hr), fun j hj => ?_⟩
    by_cases hji : j = i
    · subst hji
      exact hy.wpOp hi hS ⟨fun _ => hS, H⟩
    · have hjz : j ≠ z := fun e => hiz (lastZ_alone hz (by rw [← e]; exact hj) hr)
      have h1 := H.2 j (ready_mono hj hji)
      obtain ⟨hju, oj, hoj, hall⟩ := mem_ready.1 hj
      have hno : ∀ e ∈ oj.after, Region.binds md e = true → e.on ≠ i := fun e he hb heq => by
        have g1 := hall e he hb
        have g0 := (mem_ready.1 hr).1
        rw [heq] at g1
        rcases Nat.lt_or_ge i ls.size with h' | h'
        · simp [h'] at g0 g1
          rw [g0] at g1
          cases g1
        · simp [Array.getElem?_eq_none h'] at g1
      have h2 := wpOp_putIf hoj (hfr j oj hoj hji hju hno) (fun cs b => hsel i oi cs b hi) (fun cs b => hsel j oj cs b hoj) hQ hy h1
      refine wpOp_mono (fun a' w' h3 => ⟨fun _ => h3.2.1 hjz, ih (ls.setIfInBounds j true) a' w' (fun k ok hk hki hun hn => hfr k ok hk hki ?_ hn) (ready_mono hr (Ne.symm hji)) h3.1 (h3.2.1 hjz) ?_⟩) h2
      · by_cases hjk : j = k
        · subst hjk; exact hju
        · rw [getD_set_ne true hjk] at hun; exact hun
      · rw [Array.setIfInBounds_comm _ _ hji]
        exact h3.2.2
def mixBz (md : Region.Mode) (ops : Array Oper) (z : Nat) : List (Nat × Bool) → Array Bool → Bool
  | [], ls => decide (Region.ready md ops ls = [z]) && (Region.ready md ops (ls.setIfInBounds z true)).isEmpty
  | (k, false) :: m, ls => decide (k ≠ z) && (Region.ready md ops ls).contains k && Region.free md ops ls k && (match ops[k]? with | some o => plainB o.op | none => false) && mixBz md ops z m (ls.setIfInBounds k true)
  | (k, true) :: m, ls => decide (k ≠ z) && decide (Region.ready md ops ls = [k]) && mixBz md ops z m (ls.setIfInBounds k true)
/-- The walk; z comes last. -/
def mixWz (P : Program) (ops : Array Oper) (Q : Exit → Act → World → Prop) (z : Nat) : List (Nat × Bool) → (World → Prop) → Act → World → Prop
  | [], _, a, w => ∃ o, ops[z]? = some o ∧ Region.wanted o (yielded ops a.tmps) = true ∧ o.wp P a w (fun a' w' => Q .normal a' w') Q
  | (k, false) :: m, S, a, w => ∃ o, ops[k]? = some o ∧ if Region.wanted o (yielded ops a.tmps) then o.quiet P a S (fun a' => mixWz P ops Q z m S a' w) else mixWz P ops Q z m S (a.put o.dst undef) w
  | (k, true) :: m, S, a, w => ∃ o, ops[k]? = some o ∧ Region.wanted o (yielded ops a.tmps) = true ∧ o.wp P a w (fun a' w' => ∃ S' : World → Prop, S' w' ∧ (∀ v, S' v → S v) ∧ mixWz P ops Q z m S' a' w') Q
theorem mixZ_sound (hz : lastZ md ops z = true) (hs : Region.noSelect ops = true) (hQ : ∀ d v c a w, Q (.panic c) (Act.put a d v) w → Q (.panic c) a w) :
    ∀ (m : List (Nat × Bool)) (S : World → Prop) (ls : Array Bool) (a : Act) (w : World), mixBz md ops z m ls = true → S w → mixWz P ops Q z m S a w → allZ P md ops Q z S (m.length + 1) ls a w := by
  intro m
  induction m with
  | nil =>
    intro S ls a w hB hS h
    obtain ⟨o, h0, hw, h⟩ := h
    simp only [mixBz, Bool.and_eq_true, decide_eq_true_eq] at hB
    refine ⟨fun h1 => (by rw [hB.1] at h1; cases h1), fun i hi => ?_⟩
    rw [hB.1] at hi
    obtain rfl : i = z := by simpa using hi
    unfold wpOp
    simp only [h0]
    rw [if_pos hw]
    exact .inl (Oper.wp_mono (fun a' w' hh => ⟨fun e => absurd rfl e, by simpa using hB.2, hh⟩) h)
  | cons b m ih =>
    intro S ls a w hB hS h
    obtain ⟨k, b⟩ := b
    cases b with
    | false =>
      simp only [mixWz] at h
      obtain ⟨o, h0, h⟩ := h
      simp only [mixBz, Bool.and_eq_true, h0, decide_eq_true_eq] at hB
      obtain ⟨⟨⟨⟨hk, hr⟩, hf⟩, hp⟩, hB'⟩ := hB
      by_cases hw : Region.wanted o (yielded ops a.tmps) = true
      · rw [if_pos hw] at h
        obtain ⟨v, hv, hK⟩ := yields_quiet hp h
        exact allZ_take hz h0 hk hs (fun c a w => hQ o.dst v c a w) _ ls a w (Region.free_spec h0 hf) (by simpa using hr) (.inl ⟨hw, hv⟩) hS (ih S _ _ w hB' hS hK)
      · rw [if_neg hw] at h
        exact allZ_take hz h0 hk hs (fun c a w => hQ o.dst undef c a w) _ ls a w (Region.free_spec h0 hf) (by simpa using hr) (.inr ⟨by simpa using hw, rfl⟩) hS (ih S _ _ w hB' hS h)
    | true =>
      simp only [mixWz] at h
      obtain ⟨o, h0, hw, h⟩ := h
      simp only [mixBz, Bool.and_eq_true, decide_eq_true_eq] at hB
      obtain ⟨⟨hk, hr⟩, hB'⟩ := hB
      refine ⟨fun h1 => (by rw [hr] at h1; cases h1), fun i hi => ?_⟩
      rw [hr] at hi
      obtain rfl : i = k := by simpa using hi
      unfold wpOp
      simp only [h0]
      rw [if_pos hw]
      refine .inl (Oper.wp_mono (fun a' w' hh => ?_) h)
      obtain ⟨S', h1, h2, h3⟩ := hh
      exact ⟨fun _ => h2 _ h1, allZ_class h2 _ _ _ _ (ih S' _ a' w' hB' h1 h3)⟩
def mixOkZ (l : List Oper) (z : Nat) (m : List (Nat × Bool)) : Bool := Region.noSelect l.toArray && decide (m.length + 1 = l.length) && lastZ .any l.toArray z && mixBz .any l.toArray z m (Array.replicate l.length false)
theorem wp_region_mixZ {id : Nat} {a : Act} {w : World} {l : List Oper} (S : World → Prop) (z : Nat) (m : List (Nat × Bool)) (hm : P.follows .mixedOrders = true) (hB : mixOkZ l z m = true) (hS : S { w with drawn := w.drawn + 1 })
    (h : mixWz P l.toArray (NoPanic Q) z m (fun w' => ∃ p : InW S, w' = p.w) a { w with drawn := w.drawn + 1 }) : (Code.region id l.toArray true).wp P Q a w := by
  simp only [mixOkZ, Bool.and_eq_true, decide_eq_true_eq] at hB
  obtain ⟨⟨⟨hs, hlen⟩, hl⟩, hmix⟩ := hB
  refine wp_region_noPanic (wp_region_any hm ?_)
  have H := mixZ_sound (md := .any) hl hs (fun d v c a w hh => hh) m _ (Array.replicate l.length false) a { w with drawn := w.drawn + 1 } hmix (inS hS) h
  rw [hlen] at H
  exact allZ_any _ _ _ _ (by simpa using H)
theorem mixZ_seg {m : List (Nat × Bool)} : ∀ (ks : List Nat) (seg : List Oper) (a : Act) (w : World), ks.map (fun k => ops[k]?) = seg.map some → wpQuiet P ops S (fun a' => mixWz P ops Q z m S a' w) seg a → mixWz P ops Q z (ks.map (fun k => (k, false)) ++ m) S a w
  | [], [], _, _, _, h => h
  | [], _ :: _, _, _, hk, _ => by cases hk
  | _ :: _, [], _, _, hk, _ => by cases hk
  | k :: ks, o :: seg, a, w, hk, h => by
    simp only [List.map_cons] at hk
    injection hk with hk1 hk2
    have h' : (if Region.wanted o (yielded ops a.tmps) then o.quiet P a S (wpQuiet P ops S (fun a' => mixWz P ops Q z m S a' w) seg) else wpQuiet P ops S (fun a' => mixWz P ops Q z m S a' w) seg (a.put o.dst undef)) := h
    show ∃ o, ops[k]? = some o ∧ (if Region.wanted o (yielded ops a.tmps) then o.quiet P a S (fun a' => mixWz P ops Q z (ks.map (fun k => (k, false)) ++ m) S a' w) else mixWz P ops Q z (ks.map (fun k => (k, false)) ++ m) S (a.put o.dst undef) w)
    refine ⟨o, hk1, ?_⟩
    split
    · rename_i hw
      rw [if_pos hw] at h'
      exact Oper.quiet_mono (fun a' hh => mixZ_seg ks seg a' w hk2 hh) h'
    · rename_i hw
      rw [if_neg hw] at h'
      exact mixZ_seg ks seg _ w hk2 h'
theorem mixZ_take {m m' : List (Nat × Bool)} {a : Act} {w : World} (ks : List Nat) (seg : List Oper) (hm : m = ks.map (fun k => (k, false)) ++ m') (hs : ks.map (fun k => ops[k]?) = seg.map some) (h : wpQuiet P ops S (fun a' => mixWz P ops Q z m' S a' w) seg a) : mixWz P ops Q z m S a w := by
  rw [hm]
  exact mixZ_seg ks seg a w hs h
theorem mixZ_bar {m : List (Nat × Bool)} {k : Nat} {o : Oper} {a : Act} {S : World → Prop} {w : World} (ho : ops[k]? = some o) (hw : Region.wanted o (yielded ops a.tmps) = true)
    (h : o.wp P a w (fun a' w' => ∃ S' : World → Prop, S' w' ∧ (∀ v, S' v → S v) ∧ mixWz P ops Q z m (fun w' => ∃ p : InW S', w' = p.w) a' w') Q) : mixWz P ops Q z ((k, true) :: m) (fun w' => ∃ p : InW S, w' = p.w) a w := by
  simp only [mixWz]
  refine ⟨o, ho, hw, ?_⟩
  exact Oper.wp_mono (fun a' w' hh => by obtain ⟨S', h1, h2, h3⟩ := hh; exact ⟨_, inS h1, inS_sub h2, h3⟩) h
theorem mixZ_end {o : Oper} {a : Act} {w : World} (ho : ops[z]? = some o) (hw : Region.wanted o (yielded ops a.tmps) = true) (h : o.wp P a w (fun a' w' => Q .normal a' w') (NoPanic Q)) : mixWz P ops (NoPanic Q) z [] S a w :=
  ⟨o, ho, hw, Oper.wp_mono (fun _ _ hh => hh) h⟩
end
end Go.Proofs.YtbahehmfhjkgeaaGreat

/-
  A device of one filter, without one of its rules.
-/
namespace Go.Proofs.YtbahehmfhjkgeaaGreat
open Go Go.RowKit Go.ChangeMaps Go.MapKept Go.Maps Go.Lib Go.Sort

section
set_option maxRecDepth 100000
set_option maxHeartbeats 4000000
/-- What stands in three blocks of a call's own. -/
theorem blk3L (w : World) (A B C : Obj) : (((w.alloc A).alloc B).alloc C).heap[w.heap.size]? = some A ∧ (((w.alloc A).alloc B).alloc C).heap[w.heap.size + 1]? = some B ∧ (((w.alloc A).alloc B).alloc C).heap[w.heap.size + 2]? = some C := by
  obtain ⟨h1, h2⟩ := blk2 w A B
  have hb := below1 ((w.alloc A).alloc B) C
  exact ⟨blk_below hb h1, blk_below hb h2, by have := blk1 ((w.alloc A).alloc B) C; simpa using this⟩
theorem heap_setsL {g i : Nat} (h : i ≠ g) : ∀ (vs : List Value) (o : Nat) (w : World), (w.setCells g o vs).heap[i]? = w.heap[i]?
  | [], _, _ => rfl
  | v :: r, o, w => by
    rw [World.setCells, heap_setsL h r (o + 1)]
    exact Below.heap_setCell w ⟨g, o, none⟩ v i h
theorem without_any (w : World) (nm : ByteArray) (L : List RuleV) (vL : Value) (hL : Rd w w.heap.size 10 vL L.length (rcells L)) (hl : L.length ≤ 1000) (i : Nat) (hi : i < L.length) (b c : Nat) (h0 : w.cell? ⟨b, 0, none⟩ = some (.string nm)) (h1 : w.cell? ⟨b, 1, none⟩ = some vL) :
    Calls Tryz.prog 18 #[.agg #[.string ⟨#[]⟩, .int .u8 0, .slice none 0 0, .slice none 0 0, .slice (some ⟨b, 0, none⟩) 1 c, .slice none 0 0, .slice none 0 0, .slice none 0 0, .slice none 0 0, .slice none 0 0, .slice none 0 0, .slice none 0 0], .agg #[.int .i64 1, .string nm, .int .i64 i]] w fun e w' => ∃ g k v', e = .returned (.agg #[.string ⟨#[]⟩, .int .u8 0, .slice none 0 0, .slice none 0 0, .slice (some ⟨g, 0, none⟩) 1 k, .slice none 0 0, .slice none 0 0, .slice none 0 0, .slice none 0 0, .slice none 0 0, .slice none 0 0, .slice none 0 0]) ∧ w'.cell? ⟨g, 0, none⟩ = some (.string nm) ∧ w'.cell? ⟨g, 1, none⟩ = some v' ∧ w.heap.size ≤ g ∧ w'.ownsRow w.heap.size 43 10 v' (L.take i ++ L.drop (i + 1)).length (rcells (L.take i ++ L.drop (i + 1))) ∧ Below w.heap.size w w' := by
  have hb0 := below3 w (.cells #[.string ⟨#[]⟩, .int .u8 0, .slice none 0 0, .slice none 0 0, .slice (some ⟨b, 0, none⟩) 1 c, .slice none 0 0, .slice none 0 0, .slice none 0 0, .slice none 0 0, .slice none 0 0, .slice none 0 0, .slice none 0 0] 62) (.cells #[.int .i64 1, .string nm, .int .i64 i] 65) (.cells #[.string ⟨#[]⟩, .int .u8 0, .slice none 0 0, .slice none 0 0, .slice none 0 0, .slice none 0 0, .slice none 0 0, .slice none 0 0, .slice none 0 0, .slice none 0 0, .slice none 0 0, .slice none 0 0] 62)
  obtain ⟨k0, k1, k2⟩ := blk3L w (.cells #[.string ⟨#[]⟩, .int .u8 0, .slice none 0 0, .slice none 0 0, .slice (some ⟨b, 0, none⟩) 1 c, .slice none 0 0, .slice none 0 0, .slice none 0 0, .slice none 0 0, .slice none 0 0, .slice none 0 0, .slice none 0 0] 62) (.cells #[.int .i64 1, .string nm, .int .i64 i] 65) (.cells #[.string ⟨#[]⟩, .int .u8 0, .slice none 0 0, .slice none 0 0, .slice none 0 0, .slice none 0 0, .slice none 0 0, .slice none 0 0, .slice none 0 0, .slice none 0 0, .slice none 0 0, .slice none 0 0] 62)
  have HTW := Lib.hid (twin_any _ nm L vL ((hL.below hb0).mono hb0.size) hl b c ((hb0.cell (p := ⟨b, 0, none⟩) (World.block_lt_of_cell? _ _ h0)).trans h0) ((hb0.cell (p := ⟨b, 1, none⟩) (World.block_lt_of_cell? _ _ h1)).trans h1))
  have HB := Lib.hid hb0
  have K0 := Lib.hid k0
  have K1 := Lib.hid k1
  have K2 := Lib.hid k2
  clear hb0 k0 k1 k2 hL h0 h1
  go_enter Tryz.func18, Tryz.ntmps18
  go_upto_region 1 with fail
  have hsz : (((w.alloc (.cells #[.string ⟨#[]⟩, .int .u8 0, .slice none 0 0, .slice none 0 0, .slice (some ⟨b, 0, none⟩) 1 c, .slice none 0 0, .slice none 0 0, .slice none 0 0, .slice none 0 0, .slice none 0 0, .slice none 0 0, .slice none 0 0] 62)).alloc (.cells #[.int .i64 1, .string nm, .int .i64 i] 65)).alloc (.cells #[.string ⟨#[]⟩, .int .u8 0, .slice none 0 0, .slice none 0 0, .slice none 0 0, .slice none 0 0, .slice none 0 0, .slice none 0 0, .slice none 0 0, .slice none 0 0, .slice none 0 0, .slice none 0 0] 62)).heap.size = w.heap.size + 3 := by simp
  generalize ((w.alloc (.cells #[.string ⟨#[]⟩, .int .u8 0, .slice none 0 0, .slice none 0 0, .slice (some ⟨b, 0, none⟩) 1 c, .slice none 0 0, .slice none 0 0, .slice none 0 0, .slice none 0 0, .slice none 0 0, .slice none 0 0, .slice none 0 0] 62)).alloc (.cells #[.int .i64 1, .string nm, .int .i64 i] 65)).alloc (.cells #[.string ⟨#[]⟩, .int .u8 0, .slice none 0 0, .slice none 0 0, .slice none 0 0, .slice none 0 0, .slice none 0 0, .slice none 0 0, .slice none 0 0, .slice none 0 0, .slice none 0 0, .slice none 0 0] 62) = w1 at *
  have d0 : w1.cell? ⟨w.heap.size, 0, none⟩ = some (.string ⟨#[]⟩) := cell_of_row _ _ 0 _ _ (0, 0) K0.out
  have d1 : w1.cell? ⟨w.heap.size, 1, none⟩ = some (.int .u8 0) := cell_of_row _ _ 1 _ _ (0, 0) K0.out
  have d2 : w1.cell? ⟨w.heap.size, 2, none⟩ = some (.slice none 0 0) := cell_of_row _ _ 2 _ _ (0, 0) K0.out
  have d3 : w1.cell? ⟨w.heap.size, 3, none⟩ = some (.slice none 0 0) := cell_of_row _ _ 3 _ _ (0, 0) K0.out
  have d4 : w1.cell? ⟨w.heap.size, 4, none⟩ = some (.slice (some ⟨b, 0, none⟩) 1 c) := cell_of_row _ _ 4 _ _ (0, 0) K0.out
  have d5 : w1.cell? ⟨w.heap.size, 5, none⟩ = some (.slice none 0 0) := cell_of_row _ _ 5 _ _ (0, 0) K0.out
  have d6 : w1.cell? ⟨w.heap.size, 6, none⟩ = some (.slice none 0 0) := cell_of_row _ _ 6 _ _ (0, 0) K0.out
  have d7 : w1.cell? ⟨w.heap.size, 7, none⟩ = some (.slice none 0 0) := cell_of_row _ _ 7 _ _ (0, 0) K0.out
  have d8 : w1.cell? ⟨w.heap.size, 8, none⟩ = some (.slice none 0 0) := cell_of_row _ _ 8 _ _ (0, 0) K0.out
  have d9 : w1.cell? ⟨w.heap.size, 9, none⟩ = some (.slice none 0 0) := cell_of_row _ _ 9 _ _ (0, 0) K0.out
  have d10 : w1.cell? ⟨w.heap.size, 10, none⟩ = some (.slice none 0 0) := cell_of_row _ _ 10 _ _ (0, 0) K0.out
  have d11 : w1.cell? ⟨w.heap.size, 11, none⟩ = some (.slice none 0 0) := cell_of_row _ _ 11 _ _ (0, 0) K0.out
  go_upto_region 2 with (first
    | ((with_reducible refine HTW.out.mono ?_); rintro e w2 ⟨v2, v2', rfl, ho2, hr2, hb2⟩; obtain ⟨A2, c2, rfl, hA2⟩ := owns_form ho2; obtain ⟨g2, rfl⟩ := hA2 (by omega); obtain ⟨A3, c3, rfl, _⟩ := owns_form hr2; have HO2 := Lib.hid ho2; have HR2 := Lib.hid hr2; have HB2 := Lib.hid hb2; have HTH := Lib.hid (there_blk (blk_below hb2 K0.out)); clear ho2 hr2 hb2)
    | (refine wpList_store_mid rfl 62 _ _ rfl w.heap.size 0 #[.string ⟨#[]⟩, .int .u8 0, .slice none 0 0, .slice none 0 0, .slice (some ⟨g2, 0, none⟩) 1 c2, .slice none 0 0, .slice none 0 0, .slice none 0 0, .slice none 0 0, .slice none 0 0, .slice none 0 0, .slice none 0 0] rfl rfl HTH.out (by kernel_rfl) (all_oneCell_toArray (by intro u hu; simp only [List.mem_cons, List.not_mem_nil, or_false] at hu; rcases hu with rfl | rfl | rfl | rfl | rfl | rfl | rfl | rfl | rfl | rfl | rfl | rfl <;> rfl)) ?_))
  clear d0 d1 d2 d3 d4 d5 d6 d7 d8 d9 d10 d11 HTW
  dsimp only [Act.put]
  have J0 : Hid ((w2.setCells w.heap.size 0 [.string ⟨#[]⟩, .int .u8 0, .slice none 0 0, .slice none 0 0, .slice (some ⟨g2, 0, none⟩) 1 c2, .slice none 0 0, .slice none 0 0, .slice none 0 0, .slice none 0 0, .slice none 0 0, .slice none 0 0, .slice none 0 0]).heap[w.heap.size]? = some (.cells #[.string ⟨#[]⟩, .int .u8 0, .slice none 0 0, .slice none 0 0, .slice (some ⟨g2, 0, none⟩) 1 c2, .slice none 0 0, .slice none 0 0, .slice none 0 0, .slice none 0 0, .slice none 0 0, .slice none 0 0, .slice none 0 0] 62 (0, 0))) := Lib.hid (setCells_splice w2 w.heap.size 0 62 _ [.string ⟨#[]⟩, .int .u8 0, .slice none 0 0, .slice none 0 0, .slice (some ⟨g2, 0, none⟩) 1 c2, .slice none 0 0, .slice none 0 0, .slice none 0 0, .slice none 0 0, .slice none 0 0, .slice none 0 0, .slice none 0 0] (blk_below HB2.out K0.out) (Nat.le_refl _) (by intro u hu; simp only [List.mem_cons, List.not_mem_nil, or_false] at hu; rcases hu with rfl | rfl | rfl | rfl | rfl | rfl | rfl | rfl | rfl | rfl | rfl | rfl <;> rfl))
  have J1 : Hid ((w2.setCells w.heap.size 0 [.string ⟨#[]⟩, .int .u8 0, .slice none 0 0, .slice none 0 0, .slice (some ⟨g2, 0, none⟩) 1 c2, .slice none 0 0, .slice none 0 0, .slice none 0 0, .slice none 0 0, .slice none 0 0, .slice none 0 0, .slice none 0 0]).heap[w.heap.size + 1]? = some (.cells #[.int .i64 1, .string nm, .int .i64 i] 65 (0, 0))) := Lib.hid ((heap_setsL (by omega) _ _ _).trans (blk_below HB2.out K1.out))
  have J2 : Hid ((w2.setCells w.heap.size 0 [.string ⟨#[]⟩, .int .u8 0, .slice none 0 0, .slice none 0 0, .slice (some ⟨g2, 0, none⟩) 1 c2, .slice none 0 0, .slice none 0 0, .slice none 0 0, .slice none 0 0, .slice none 0 0, .slice none 0 0, .slice none 0 0]).heap[w.heap.size + 2]? = some (.cells #[.string ⟨#[]⟩, .int .u8 0, .slice none 0 0, .slice none 0 0, .slice none 0 0, .slice none 0 0, .slice none 0 0, .slice none 0 0, .slice none 0 0, .slice none 0 0, .slice none 0 0, .slice none 0 0] 62 (0, 0))) := Lib.hid ((heap_setsL (by omega) _ _ _).trans (blk_below HB2.out K2.out))
  have JO := Lib.hid (owns_setsL rfl (show w.heap.size < w1.heap.size by omega) [.string ⟨#[]⟩, .int .u8 0, .slice none 0 0, .slice none 0 0, .slice (some ⟨g2, 0, none⟩) 1 c2, .slice none 0 0, .slice none 0 0, .slice none 0 0, .slice none 0 0, .slice none 0 0, .slice none 0 0, .slice none 0 0] 0 _ HO2.out)
  have JR := Lib.hid (owns_setsL rfl (show w.heap.size < w1.heap.size by omega) [.string ⟨#[]⟩, .int .u8 0, .slice none 0 0, .slice none 0 0, .slice (some ⟨g2, 0, none⟩) 1 c2, .slice none 0 0, .slice none 0 0, .slice none 0 0, .slice none 0 0, .slice none 0 0, .slice none 0 0, .slice none 0 0] 0 _ HR2.out)
  have JB := Lib.hid (below_setsL w.heap.size (Nat.le_refl _) [.string ⟨#[]⟩, .int .u8 0, .slice none 0 0, .slice none 0 0, .slice (some ⟨g2, 0, none⟩) 1 c2, .slice none 0 0, .slice none 0 0, .slice none 0 0, .slice none 0 0, .slice none 0 0, .slice none 0 0, .slice none 0 0] 0 _ (HB.out.trans (HB2.out.mono HB.out.size)))
  clear HB K0 K1 K2 HO2 HR2 HB2 HTH
  generalize w2.setCells w.heap.size 0 [.string ⟨#[]⟩, .int .u8 0, .slice none 0 0, .slice none 0 0, .slice (some ⟨g2, 0, none⟩) 1 c2, .slice none 0 0, .slice none 0 0, .slice none 0 0, .slice none 0 0, .slice none 0 0, .slice none 0 0, .slice none 0 0] = w3 at *
  have d4 : w3.cell? ⟨w.heap.size, 4, none⟩ = some (.slice (some ⟨g2, 0, none⟩) 1 c2) := cell_of_row _ _ 4 _ _ (0, 0) J0.out
  have p0 : w3.cell? ⟨w.heap.size + 1, 0, none⟩ = some (.int .i64 1) := cell_of_row _ _ 0 _ _ (0, 0) J1.out
  have q0 : w3.cell? ⟨g2, 0, none⟩ = some (.string nm) := JO.out.cellAt 0 (by omega)
  have q1 : w3.cell? ⟨g2, 1, none⟩ = some (.slice A3 L.length c3) := JO.out.cellAt 1 (by omega)
  have HIX := Lib.hid (idxF_any w3 nm (.slice A3 L.length c3) g2 c2 (w.heap.size + 1) 1 i q0 q1 J1.out)
  have Q0 := Lib.hid q0
  have Q1 := Lib.hid q1
  clear q0 q1
  go_upto_region 9 with ((with_reducible refine HIX.out.mono ?_); rintro e w4 ⟨rfl, hb4⟩; have p0 : w4.cell? ⟨w.heap.size + 1, 0, none⟩ = some (.int .i64 1) := cell_of_row _ _ 0 _ _ (0, 0) (blk_below hb4 J1.out); have HB4 := Lib.hid hb4; clear hb4)
  clear p0 d4 HIX
  have G0 := Lib.hid (blk_below HB4.out J0.out)
  have G1 := Lib.hid (blk_below HB4.out J1.out)
  have G2 := Lib.hid (blk_below HB4.out J2.out)
  have R0 := Lib.hid ((HB4.out.cell (p := ⟨g2, 0, none⟩) (World.block_lt_of_cell? _ _ Q0.out)).trans Q0.out)
  have R1 := Lib.hid ((HB4.out.cell (p := ⟨g2, 1, none⟩) (World.block_lt_of_cell? _ _ Q1.out)).trans Q1.out)
  have RR := Lib.hid (((Rd.of_own JR.out).below HB4.out).mono HB4.out.size)
  have RB := Lib.hid (JB.out.trans (HB4.out.mono JB.out.size))
  have hg2 : w1.heap.size ≤ g2 := (JO.out.lt g2 rfl).1
  obtain ⟨cur, hcg, _, _, hcs, _, _⟩ := owns_block JO.out
  have GC := Lib.hid (blk_below HB4.out hcg)
  clear hcg
  clear J0 J1 J2 JO JR JB HB4 Q0 Q1
  have hwd : Below w4.heap.size w4 { w4 with drawn := w4.drawn + 1 } := ⟨rfl, rfl, rfl, Nat.le_refl _, fun _ _ => rfl⟩
  obtain ⟨S, hS⟩ : ∃ S : World → Prop, S = fun W => W.cell? ⟨w.heap.size, 4, none⟩ = some (.slice (some ⟨g2, 0, none⟩) 1 c2) ∧ W.cell? ⟨w.heap.size + 1, 2, none⟩ = some (.int .i64 i) := ⟨_, rfl⟩
  have hS4 : ∀ W, S W → W.cell? ⟨w.heap.size, 4, none⟩ = some (.slice (some ⟨g2, 0, none⟩) 1 c2) := fun W h => by rw [hS] at h; exact h.1
  have hS2 : ∀ W, S W → W.cell? ⟨w.heap.size + 1, 2, none⟩ = some (.int .i64 i) := fun W h => by rw [hS] at h; exact h.2
  have hSB : Hid (∀ W, W.heap[w.heap.size]? = some (.cells #[.string ⟨#[]⟩, .int .u8 0, .slice none 0 0, .slice none 0 0, .slice (some ⟨g2, 0, none⟩) 1 c2, .slice none 0 0, .slice none 0 0, .slice none 0 0, .slice none 0 0, .slice none 0 0, .slice none 0 0, .slice none 0 0] 62 (0, 0)) → W.heap[w.heap.size + 1]? = some (.cells #[.int .i64 1, .string nm, .int .i64 i] 65 (0, 0)) → S W) := Lib.hid fun W h1 h2 => by
    rw [hS]
    exact ⟨cell_of_row _ _ 4 _ _ (0, 0) h1, cell_of_row _ _ 2 _ _ (0, 0) h2⟩
  clear hS
  have hS0 : S { w4 with drawn := w4.drawn + 1 } := hSB.out _ (blk_below hwd G0.out) (blk_below hwd G1.out)
  haveI : Nonempty (InW S) := ⟨⟨_, hS0⟩⟩
  refine wp_region_mixS S [(0, false), (1, false), (2, false), (3, false), (4, false), (5, false), (6, false), (7, false), (9, false), (10, false), (8, true), (11, true), (12, false), (13, false), (14, true)] (by kernel_rfl) (by kernel_rfl) hS0 ?_
  have e0 : ∀ p : InW S, p.w.cell? ⟨w.heap.size, 4, none⟩ = some (.slice (some ⟨g2, 0, none⟩) 1 c2) := fun p => hS4 p.w p.h
  have e2 : ∀ p : InW S, p.w.cell? ⟨w.heap.size + 1, 2, none⟩ = some (.int .i64 i) := fun p => hS2 p.w p.h
  have e1 : ({ w4 with drawn := w4.drawn + 1 } : World).cell? ⟨g2, 1, none⟩ = some (.slice A3 L.length c3) := R1.out
  clear hS4 hS2
  generalize { w4 with drawn := w4.drawn + 1 } = w5 at *
  refine mix_take [0, 1, 2, 3, 4, 5, 6, 7, 9, 10] [_, _, _, _, _, _, _, _, _, _] rfl rfl ?_
  simp only [List.getElem_toArray, List.getElem_cons_zero, List.getElem_cons_succ]
  repeat (go_big_quiet_step (fail))
  refine wpQuiet_nil ?_
  refine mix_barS rfl (by rfl) ?_
  simp only [List.getElem_toArray, List.getElem_cons_zero, List.getElem_cons_succ]
  go_simp
  refine ⟨S, hS0, fun _ h => h, ?_⟩
  clear e1 e2 hS0
  refine mix_barS rfl (by rfl) ?_
  simp only [List.getElem_toArray, List.getElem_cons_zero, List.getElem_cons_succ]
  go_simp
  refine (butR_any w5 L (.slice A3 L.length c3) ((RR.out.below hwd).mono hwd.size) hl i hi).mono ?_
  rintro e w6 ⟨v6, rfl, ho6, hb6⟩
  obtain ⟨A6, c6, rfl, _⟩ := owns_form ho6
  have HO6 := Lib.hid ho6
  have HB6 := Lib.hid (hwd.trans (hb6.mono hwd.size))
  have hs5 := hwd.size
  clear ho6 hb6 hwd
  have hn6 : (L.take i ++ L.drop (i + 1)).length = L.length - 1 := by rw [List.length_append, List.length_take, List.length_drop]; omega
  obtain ⟨L6, hL6⟩ : ∃ L6, L.take i ++ L.drop (i + 1) = L6 := ⟨_, rfl⟩
  have HL6 := Lib.hid hL6
  rw [hL6] at HO6 hn6 ⊢
  clear hL6
  refine ⟨S, hSB.out _ (blk_below HB6.out G0.out) (blk_below HB6.out G1.out), fun _ h => h, ?_⟩
  go_simp
  refine mix_take [12, 13] [_, _] rfl rfl ?_
  simp only [List.getElem_toArray, List.getElem_cons_zero, List.getElem_cons_succ]
  repeat (go_big_quiet_step (fail))
  refine wpQuiet_nil ?_
  clear e0
  have hR1 := R1.out
  have d1 : w6.cell? ⟨g2, 1, none⟩ = some (.slice A3 L.length c3) := (HB6.out.cell (p := ⟨g2, 1, none⟩) (World.block_lt_of_cell? _ _ hR1)).trans hR1
  have f1 := frozen_of_row _ _ 1 _ _ (blk_below HB6.out GC.out)
  refine mix_barS rfl (by rfl) ?_
  simp only [List.getElem_toArray, List.getElem_cons_zero, List.getElem_cons_succ]
  go_simp
  have M0 := Lib.hid (set_far (p := ⟨g2, 1, none⟩) (u := .slice A6 (L.length - 1) c6) (blk_below HB6.out G0.out) (by show w.heap.size ≠ g2; omega))
  have M1 := Lib.hid (set_far (p := ⟨g2, 1, none⟩) (u := .slice A6 (L.length - 1) c6) (blk_below HB6.out G1.out) (by show w.heap.size + 1 ≠ g2; omega))
  have M2 := Lib.hid (set_far (p := ⟨g2, 1, none⟩) (u := .slice A6 (L.length - 1) c6) (blk_below HB6.out G2.out) (by show w.heap.size + 2 ≠ g2; omega))
  have MC := Lib.hid (set_at (i := 1) (u := .slice A6 (L.length - 1) c6) (blk_below HB6.out GC.out))
  have MO := Lib.hid (owns_setL (i := 1) (u := .slice A6 (L.length - 1) c6) HO6.out (show g2 < w5.heap.size by have := lt_of_block GC.out; omega))
  have MB := Lib.hid ((RB.out.trans (HB6.out.mono RB.out.size)).setCell (p := ⟨g2, 1, none⟩) (by show w.heap.size ≤ g2; omega) (.slice A6 (L.length - 1) c6))
  have hc0 : cur[0]? = some (.string nm) := by
    have h := R0.out
    rw [cell_of_row _ _ 0 _ _ (0, 0) GC.out] at h
    exact h
  have M3 : Hid ((w6.setCell ⟨g2, 1, none⟩ (.slice A6 (L.length - 1) c6)).cell? ⟨g2, 0, none⟩ = some (.string nm)) := Lib.hid (by
    rw [cell_of_row _ _ 0 _ _ (0, 0) MC.out]
    simpa [Array.getElem?_setIfInBounds] using hc0)
  have M4 : Hid ((w6.setCell ⟨g2, 1, none⟩ (.slice A6 (L.length - 1) c6)).cell? ⟨g2, 1, none⟩ = some (.slice A6 (L.length - 1) c6)) := Lib.hid (by
    rw [cell_of_row _ _ 1 _ _ (0, 0) MC.out]
    have : 1 < cur.size := by omega
    simp [this])
  clear hc0 f1 d1
  refine ⟨S, hSB.out _ M0.out M1.out, fun _ h => h, ?_⟩
  have hs6 : w.heap.size + 3 ≤ w5.heap.size := by have := lt_of_block G2.out; omega
  clear MC GC HO6 HB6 RB G0 G1 G2 R0 R1 RR hSB hR1 hs5
  generalize w6.setCell ⟨g2, 1, none⟩ (.slice A6 (L.length - 1) c6) = w7 at *
  refine mix_end ?_
  have d0 : w7.cell? ⟨w.heap.size, 0, none⟩ = some (.string ⟨#[]⟩) := cell_of_row _ _ 0 _ _ (0, 0) M0.out
  have d1 : w7.cell? ⟨w.heap.size, 1, none⟩ = some (.int .u8 0) := cell_of_row _ _ 1 _ _ (0, 0) M0.out
  have d2 : w7.cell? ⟨w.heap.size, 2, none⟩ = some (.slice none 0 0) := cell_of_row _ _ 2 _ _ (0, 0) M0.out
  have d3 : w7.cell? ⟨w.heap.size, 3, none⟩ = some (.slice none 0 0) := cell_of_row _ _ 3 _ _ (0, 0) M0.out
  have d4 : w7.cell? ⟨w.heap.size, 4, none⟩ = some (.slice (some ⟨g2, 0, none⟩) 1 c2) := cell_of_row _ _ 4 _ _ (0, 0) M0.out
  have d5 : w7.cell? ⟨w.heap.size, 5, none⟩ = some (.slice none 0 0) := cell_of_row _ _ 5 _ _ (0, 0) M0.out
  have d6 : w7.cell? ⟨w.heap.size, 6, none⟩ = some (.slice none 0 0) := cell_of_row _ _ 6 _ _ (0, 0) M0.out
  have d7 : w7.cell? ⟨w.heap.size, 7, none⟩ = some (.slice none 0 0) := cell_of_row _ _ 7 _ _ (0, 0) M0.out
  have d8 : w7.cell? ⟨w.heap.size, 8, none⟩ = some (.slice none 0 0) := cell_of_row _ _ 8 _ _ (0, 0) M0.out
  have d9 : w7.cell? ⟨w.heap.size, 9, none⟩ = some (.slice none 0 0) := cell_of_row _ _ 9 _ _ (0, 0) M0.out
  have d10 : w7.cell? ⟨w.heap.size, 10, none⟩ = some (.slice none 0 0) := cell_of_row _ _ 10 _ _ (0, 0) M0.out
  have d11 : w7.cell? ⟨w.heap.size, 11, none⟩ = some (.slice none 0 0) := cell_of_row _ _ 11 _ _ (0, 0) M0.out
  have HTH := Lib.hid (there_blk M2.out)
  go_wp2_with (refine wpList_store_mid rfl 62 _ _ rfl (w.heap.size + 2) 0 #[.string ⟨#[]⟩, .int .u8 0, .slice none 0 0, .slice none 0 0, .slice (some ⟨g2, 0, none⟩) 1 c2, .slice none 0 0, .slice none 0 0, .slice none 0 0, .slice none 0 0, .slice none 0 0, .slice none 0 0, .slice none 0 0] rfl rfl HTH.out (by kernel_rfl) (all_oneCell_toArray (by intro u hu; simp only [List.mem_cons, List.not_mem_nil, or_false] at hu; rcases hu with rfl | rfl | rfl | rfl | rfl | rfl | rfl | rfl | rfl | rfl | rfl | rfl <;> rfl)) ?_)
  have K6 := setCells_splice w7 (w.heap.size + 2) 0 62 _ (#[.string ⟨#[]⟩, .int .u8 0, .slice none 0 0, .slice none 0 0, .slice (some ⟨g2, 0, none⟩) 1 c2, .slice none 0 0, .slice none 0 0, .slice none 0 0, .slice none 0 0, .slice none 0 0, .slice none 0 0, .slice none 0 0] : Array Value).toList M2.out (Nat.le_refl _) (by intro u hu; simp only [List.mem_cons, List.not_mem_nil, or_false] at hu; rcases hu with rfl | rfl | rfl | rfl | rfl | rfl | rfl | rfl | rfl | rfl | rfl | rfl <;> rfl)
  have hx : ∀ (W : World), W = w7.setCells (w.heap.size + 2) 0 (#[.string ⟨#[]⟩, .int .u8 0, .slice none 0 0, .slice none 0 0, .slice (some ⟨g2, 0, none⟩) 1 c2, .slice none 0 0, .slice none 0 0, .slice none 0 0, .slice none 0 0, .slice none 0 0, .slice none 0 0, .slice none 0 0] : Array Value).toList → ∃ g k v', (Ending.returned (.agg #[.string ⟨#[]⟩, .int .u8 0, .slice none 0 0, .slice none 0 0, .slice (some ⟨g2, 0, none⟩) 1 c2, .slice none 0 0, .slice none 0 0, .slice none 0 0, .slice none 0 0, .slice none 0 0, .slice none 0 0, .slice none 0 0]) : Ending) = .returned (.agg #[.string ⟨#[]⟩, .int .u8 0, .slice none 0 0, .slice none 0 0, .slice (some ⟨g, 0, none⟩) 1 k, .slice none 0 0, .slice none 0 0, .slice none 0 0, .slice none 0 0, .slice none 0 0, .slice none 0 0, .slice none 0 0]) ∧ W.cell? ⟨g, 0, none⟩ = some (.string nm) ∧ W.cell? ⟨g, 1, none⟩ = some v' ∧ w.heap.size ≤ g ∧ W.ownsRow w.heap.size 43 10 v' L6.length (rcells L6) ∧ Below w.heap.size w W := fun W hW => by
    subst hW
    refine ⟨g2, c2, .slice A6 L6.length c6, rfl, (World.cell?_of_block (heap_setsL (show g2 ≠ w.heap.size + 2 by omega) _ _ _)).trans M3.out, (World.cell?_of_block (heap_setsL (show g2 ≠ w.heap.size + 2 by omega) _ _ _)).trans (by rw [hn6]; exact M4.out), by omega, owns_base (owns_setsL rfl (by omega) _ _ _ MO.out) (by omega), below_setsL (w.heap.size + 2) (by omega) _ _ _ MB.out⟩
  rw [← HL6.out] at hx
  try simp only [Exit.inBlock, Exit.then]
  exact bodyPost_ret (results_cell_row Tryz.results18 _ _ (w.heap.size + 2) _ _ (0, 0) _ rfl K6 Tryz.underlying62 rfl (by kernel_rfl)) rfl (hx _ rfl)
end
end Go.Proofs.YtbahehmfhjkgeaaGreat

/-
  Diagrams, plain: nodes in a list, what they are true of, one node for one function. No program in sight.
-/
namespace Go.Proofs.YtbahehmfhjkgeaaGreat

structure Nd where
  v : Nat
  lo : Nat
  hi : Nat
deriving DecidableEq
instance : Inhabited Nd := ⟨⟨256, 0, 0⟩⟩
def nd (N : List Nd) (i : Nat) : Nd := (N[i]?).getD ⟨256, 0, 0⟩
def evF (N : List Nd) (s : Nat → Bool) : Nat → Nat → Bool
  | 0, _ => false
  | f + 1, i => if i = 0 then false else if i = 1 then true else if s (nd N i).v then evF N s f (nd N i).hi else evF N s f (nd N i).lo
/-- Is a node true of values? -/
def ev (N : List Nd) (s : Nat → Bool) (i : Nat) : Bool := evF N s (i + 1) i
/-- Nodes in order: what stands beneath stands ahead, and of later variables; none twice. -/
structure WF (N : List Nd) : Prop where
  two : 2 ≤ N.length
  ends : ∀ i, i < 2 → nd N i = ⟨256, 0, 0⟩
  lo : ∀ i, 2 ≤ i → i < N.length → (nd N i).lo < i
  hi : ∀ i, 2 ≤ i → i < N.length → (nd N i).hi < i
  ne : ∀ i, 2 ≤ i → i < N.length → (nd N i).lo ≠ (nd N i).hi
  vlo : ∀ i, 2 ≤ i → i < N.length → (nd N i).v < (nd N (nd N i).lo).v
  vhi : ∀ i, 2 ≤ i → i < N.length → (nd N i).v < (nd N (nd N i).hi).v
  one : ∀ i j, 2 ≤ i → i < N.length → 2 ≤ j → j < N.length → nd N i = nd N j → i = j
theorem nd_lt {N : List Nd} {i : Nat} (h : i < N.length) : N[i]? = some (nd N i) := by
  unfold nd
  rw [List.getElem?_eq_getElem h]; rfl
theorem WF.v256 {N : List Nd} (h : WF N) : ∀ i, (nd N i).v ≤ 256 := by
  intro i
  induction i using Nat.strongRecOn with
  | _ i ih =>
    rcases Nat.lt_or_ge i N.length with hi | hi
    · rcases Nat.lt_or_ge i 2 with h2 | h2
      · rw [h.ends i h2]; exact Nat.le_refl _
      · have := h.vlo i h2 hi
        have := ih _ (h.lo i h2 hi)
        omega
    · unfold nd
      rw [List.getElem?_eq_none hi]; exact Nat.le_refl _
theorem WF.v_lt {N : List Nd} (h : WF N) {i : Nat} (h2 : 2 ≤ i) (hi : i < N.length) : (nd N i).v < 256 := by
  have := h.vlo i h2 hi
  have := h.v256 (nd N i).lo
  omega
theorem evF_fuel {N : List Nd} (h : WF N) (s : Nat → Bool) : ∀ (i f g : Nat), i < N.length → i < f → i < g → evF N s f i = evF N s g i := by
  intro i
  induction i using Nat.strongRecOn with
  | _ i ih =>
    intro f g hi hf hg
    cases f with
    | zero => omega
    | succ f =>
      cases g with
      | zero => omega
      | succ g =>
        unfold evF
        by_cases h0 : i = 0
        · rw [if_pos h0, if_pos h0]
        · by_cases h1 : i = 1
          · rw [if_neg h0, if_neg h0, if_pos h1, if_pos h1]
          · rw [if_neg h0, if_neg h0, if_neg h1, if_neg h1]
            have h2 : 2 ≤ i := by omega
            have a := h.lo i h2 hi
            have b := h.hi i h2 hi
            rw [ih _ a f g (by omega) (by omega) (by omega), ih _ b f g (by omega) (by omega) (by omega)]
theorem ev_zero (N : List Nd) (s : Nat → Bool) : ev N s 0 = false := rfl
theorem ev_one (N : List Nd) (s : Nat → Bool) : ev N s 1 = true := rfl
theorem ev_node {N : List Nd} (h : WF N) (s : Nat → Bool) {i : Nat} (h2 : 2 ≤ i) (hi : i < N.length) : ev N s i = if s (nd N i).v then ev N s (nd N i).hi else ev N s (nd N i).lo := by
  have a := h.lo i h2 hi
  have b := h.hi i h2 hi
  show evF N s (i + 1) i = _
  conv => lhs; unfold evF
  rw [if_neg (by omega), if_neg (by omega)]
  unfold ev
  rw [evF_fuel h s _ i ((nd N i).hi + 1) (by omega) b (by omega), evF_fuel h s _ i ((nd N i).lo + 1) (by omega) a (by omega)]
/-- A node hangs on no variable ahead of its own. -/
theorem ev_agree {N : List Nd} (h : WF N) : ∀ (i : Nat) (s t : Nat → Bool), i < N.length → (∀ v, (nd N i).v ≤ v → s v = t v) → ev N s i = ev N t i := by
  intro i
  induction i using Nat.strongRecOn with
  | _ i ih =>
    intro s t hi hst
    rcases Nat.lt_or_ge i 2 with h2 | h2
    · obtain rfl | rfl : i = 0 ∨ i = 1 := by omega
      · rfl
      · rfl
    · rw [ev_node h s h2 hi, ev_node h t h2 hi, hst _ (Nat.le_refl _)]
      have a := h.lo i h2 hi
      have b := h.hi i h2 hi
      rw [ih _ a s t (by omega) (fun v hv => hst v (by have := h.vlo i h2 hi; omega)), ih _ b s t (by omega) (fun v hv => hst v (by have := h.vhi i h2 hi; omega))]
/-- Values with another one at a variable. -/
def put (s : Nat → Bool) (v : Nat) (b : Bool) : Nat → Bool := fun u => if u = v then b else s u
theorem put_same (s : Nat → Bool) (v : Nat) (b : Bool) : put s v b v = b := by simp [put]
theorem put_other {s : Nat → Bool} {v u : Nat} {b : Bool} (h : u ≠ v) : put s v b u = s u := by simp [put, h]
theorem ev_put {N : List Nd} (h : WF N) {i v : Nat} (hi : i < N.length) (hv : v < (nd N i).v) (s : Nat → Bool) (b : Bool) : ev N (put s v b) i = ev N s i :=
  ev_agree h i _ _ hi fun u hu => put_other (by omega)
theorem ev_lo {N : List Nd} (h : WF N) {i : Nat} (h2 : 2 ≤ i) (hi : i < N.length) (s : Nat → Bool) : ev N (put s (nd N i).v false) i = ev N s (nd N i).lo := by
  rw [ev_node h _ h2 hi, put_same, if_neg (by simp)]
  exact ev_put h (by have := h.lo i h2 hi; omega) (h.vlo i h2 hi) s false
theorem ev_hi {N : List Nd} (h : WF N) {i : Nat} (h2 : 2 ≤ i) (hi : i < N.length) (s : Nat → Bool) : ev N (put s (nd N i).v true) i = ev N s (nd N i).hi := by
  rw [ev_node h _ h2 hi, put_same, if_pos rfl]
  exact ev_put h (by have := h.hi i h2 hi; omega) (h.vhi i h2 hi) s true
/-- ONE NODE FOR ONE FUNCTION. -/
theorem WF.canon {N : List Nd} (h : WF N) : ∀ (n i j : Nat), i ≤ n → j ≤ n → i < N.length → j < N.length → (∀ s, ev N s i = ev N s j) → i = j := by
  intro n
  induction n with
  | zero => intro i j hn hm _ _ _; omega
  | succ n ih =>
    intro i j hn hm hi hj he
    have low : ∀ i j, i ≤ n + 1 → i < N.length → j < N.length → (∀ s, ev N s i = ev N s j) → (nd N i).v < (nd N j).v → False := by
      intro i j hn hi hj he hv
      have h2 : 2 ≤ i := by
        rcases Nat.lt_or_ge i 2 with h2 | h2
        · have e := h.ends i h2
          have := h.v256 j
          rw [e] at hv
          have : (256 : Nat) < (nd N j).v := hv
          omega
        · exact h2
      have a := h.lo i h2 hi
      have b := h.hi i h2 hi
      have e1 : ∀ s, ev N s (nd N i).lo = ev N s (nd N i).hi := fun s => by
        rw [← ev_lo h h2 hi s, ← ev_hi h h2 hi s, he, he, ev_put h hj hv, ev_put h hj hv]
      exact h.ne i h2 hi (ih _ _ (by omega) (by omega) (by omega) (by omega) e1)
    rcases Nat.lt_trichotomy (nd N i).v (nd N j).v with hv | hv | hv
    · exact (low i j hn hi hj he hv).elim
    · rcases Nat.lt_or_ge i 2 with h2 | h2
      · rcases Nat.lt_or_ge j 2 with g2 | g2
        · have := he (fun _ => false)
          obtain rfl | rfl : i = 0 ∨ i = 1 := by omega
          · obtain rfl | rfl : j = 0 ∨ j = 1 := by omega
            · rfl
            · rw [ev_zero, ev_one] at this; simp at this
          · obtain rfl | rfl : j = 0 ∨ j = 1 := by omega
            · rw [ev_zero, ev_one] at this; simp at this
            · rfl
        · have e := h.ends i h2
          have := h.v_lt g2 hj
          rw [e] at hv
          have : (256 : Nat) = (nd N j).v := hv
          omega
      · rcases Nat.lt_or_ge j 2 with g2 | g2
        · have e := h.ends j g2
          have := h.v_lt h2 hi
          rw [e] at hv
          have : (nd N i).v = 256 := hv
          omega
        · have e1 : (nd N i).lo = (nd N j).lo := by
            have a := h.lo i h2 hi
            have b := h.lo j g2 hj
            refine ih _ _ (by omega) (by omega) (by omega) (by omega) fun s => ?_
            rw [← ev_lo h h2 hi s, ← ev_lo h g2 hj s, hv, he]
          have e2 : (nd N i).hi = (nd N j).hi := by
            have a := h.hi i h2 hi
            have b := h.hi j g2 hj
            refine ih _ _ (by omega) (by omega) (by omega) (by omega) fun s => ?_
            rw [← ev_hi h h2 hi s, ← ev_hi h g2 hj s, hv, he]
          refine h.one i j h2 hi g2 hj ?_
          cases hni : nd N i with
          | mk a b c =>
            cases hnj : nd N j with
            | mk a' b' c' =>
              rw [hni, hnj] at hv e1 e2
              simp at hv e1 e2
              rw [hv, e1, e2]
    · exact (low j i hm hj hi (fun s => (he s).symm) hv).elim
end Go.Proofs.YtbahehmfhjkgeaaGreat

/-
  Joined texts: Filt4, Filt5, Fr1, Bm9, Bm10, Bm11, Bm13, Bm14, SortI, Bm15, Rc1, Rd0, Rf1.
-/
import Derived.Test.YthhcaoljejifeaaGreatMLintRewrites7
import Derived.Test.YthhcaoljejifeaaGreatMLintRewrites8
import Derived.Test.YthhcaoljejifeaaGreatMLintRewrites1
import Derived.Test.YthhcaoljejifeaaGreatShelf2
import Derived.Test.YthhcaoljejifeaaGreatMLintRewrites5
import Derived.Test.YthhcaoljejifeaaGreatMLintRewrites3
import Derived.Deep.CutBlock
import Derived.Carry
import Derived.Deep.RegionHeldLaw
import Derived.Test.YthhcaoljejifeaaGreatMLintRewrites2
import Derived.Test.YthhcaoljejifeaaGreatShelf
import Derived.Sort.Walk13a
import Derived.Lib.SlicesCompact
import Derived.Lib.RowBridge
/-
  Walks over the filter's layer: whole filters: Check.
-/
namespace Go.Proofs.YthhcaoljejifeaaGreat
open Go Go.RowKit

instance : Inhabited RuleV := ⟨⟨false, 0, 0, 0, 0, 0, 0, 0, 0, 0, by omega, by omega, by omega, by omega, by omega, by omega, by omega⟩⟩
/-- A rule's ten cells. -/
def RuleV.enc (r : RuleV) : List Value := [.bool r.permit, .int .i64 r.proto, .int .u32 r.sa, .int .i64 r.sn, .int .u32 r.da, .int .i64 r.dn, .int .u32 r.sl, .int .u32 r.sh, .int .u32 r.dl, .int .u32 r.dh]
theorem rule_len (r : RuleV) : r.enc.length = 10 := rfl
def rcells (L : List RuleV) : List Value := L.flatMap RuleV.enc

set_option maxHeartbeats 400000 in
theorem notMay_any (r : RuleV) (w : World) :
    Calls Tryz.prog 30 #[.agg #[.bool r.permit, .int .i64 r.proto, .int .u32 r.sa, .int .i64 r.sn, .int .u32 r.da, .int .i64 r.dn, .int .u32 r.sl, .int .u32 r.sh, .int .u32 r.dl, .int .u32 r.dh]] w fun e w' => e = .returned (.bool (!mayB r)) ∧ Below w.heap.size w w' := by
  go_enter Tryz.func30, Tryz.ntmps30
  go_wp2_with fail
  refine (may_any r _).mono ?_
  rintro e w1 ⟨rfl, hb⟩
  have hbw := below_call (below1 w _) hb
  go_wp2
  go_ret
  exact ⟨rfl, hbw⟩
theorem notMay_pred (w : World) : PredBelow Tryz.prog 30 #[] (fun x : RuleV => .agg x.enc.toArray) (fun r => !mayB r) w := fun W r hb =>
  (notMay_any r W).mono fun _ _ ⟨he, hb'⟩ => ⟨he, hb.trans (hb'.mono hb.size)⟩

/-- slices.IndexFunc over rules, at any length. -/
theorem indexRule_any (L : List RuleV) (v : Value) (p : RuleV → Bool) (g : Nat) (lb : Array Value) (w : World) (eg : ∀ args w, (callFunc g args).run Tryz.prog w = .ok (.enter g args) w)
    (hp : PredBelow Tryz.prog g lb (fun x : RuleV => .agg x.enc.toArray) p w) (h : Rd w w.heap.size 10 v L.length (rcells L)) (hlen : L.length ≤ 9223372036854775807) :
    Calls Tryz.prog 46 #[v, .func (.func g) #[] lb] w fun e w' => e = .returned (.int .i64 (idxP p L)) ∧ Below w.heap.size w w' := by
  by_cases h0 : L.length = 0
  · obtain ⟨A, c, rfl, hc⟩ := h.form
    have e1 : L = [] := List.eq_nil_of_length_eq_zero h0
    subst e1
    clear hp h eg
    go_enter Tryz.func46, Tryz.ntmps46
    go_wp2
    refine wp_loop_rounds 1 ?_
    rw [rounds_succ]
    go_wp2
    go_ret
    exact ⟨rfl, Below.refl _ _⟩
  · obtain ⟨b, off, c, rfl, hc, hbB, hcell⟩ := h.pos (by omega)
    have := AnyQ.slices_IndexFunc Tryz.indexRule 10 Tryz.isAgg71 Tryz.sizeOf71 RuleV.enc rule_len p g lb eg b off L.length c L w hp (Nat.le_refl _) hlen hbB (Rd.cells rule_len hcell)
    rw [List.take_length] at this
    exact this
/-- slices.ContainsFunc over rules, at any length. -/
theorem containsRule_any (L : List RuleV) (v : Value) (p : RuleV → Bool) (g : Nat) (lb : Array Value) (w : World) (eg : ∀ args w, (callFunc g args).run Tryz.prog w = .ok (.enter g args) w)
    (hp : PredBelow Tryz.prog g lb (fun x : RuleV => .agg x.enc.toArray) p w) (h : Rd w w.heap.size 10 v L.length (rcells L)) (hlen : L.length ≤ 9223372036854775807) :
    Calls Tryz.prog 29 #[v, .func (.func g) #[] lb] w fun e w' => e = .returned (.bool (L.any p)) ∧ Below w.heap.size w w' := by
  by_cases h0 : L.length = 0
  · obtain ⟨A, c, rfl, hc⟩ := h.form
    have e1 : L = [] := List.eq_nil_of_length_eq_zero h0
    subst e1
    have hi := indexRule_any [] _ p g lb w eg hp h (by simp)
    have HI := Lib.hid hi
    clear hi hp h eg
    go_enter Tryz.func29, Tryz.ntmps29
    go_wp2_with fail
    refine HI.out.mono ?_
    rintro e w1 ⟨rfl, hb⟩
    have hm : (0 : Int) ≤ idxP p [] ↔ False := by rw [idxP_nil]; decide
    go_wp2
    go_ret
    exact ⟨ret_bool (by simp), hb⟩
  · obtain ⟨b, off, c, rfl, hc, hbB, hcell⟩ := h.pos (by omega)
    have := AnyQ.slices_ContainsFunc Tryz.containsRule 10 Tryz.isAgg71 Tryz.sizeOf71 RuleV.enc rule_len p g lb eg b off L.length c L w hp (Nat.le_refl _) hlen hbB (Rd.cells rule_len hcell)
    rw [List.take_length] at this
    exact this

/-- The refusal of a filter. -/
def filtE (L : List RuleV) : Int := if 256 < L.length then 121 else if L.any (fun r => !mayB r) then 121 else 0
theorem filtE_1 {L : List RuleV} (h : 256 < L.length) : filtE L = 121 := if_pos h
theorem filtE_2 {L : List RuleV} (h : ¬ 256 < L.length) (h1 : L.any (fun r => !mayB r) = true) : filtE L = 121 := by unfold filtE; rw [if_neg h, if_pos h1]
theorem filtE_3 {L : List RuleV} (h : ¬ 256 < L.length) (h1 : L.any (fun r => !mayB r) = false) : filtE L = 0 := by unfold filtE; rw [if_neg h, if_neg (by simp [h1])]

set_option maxHeartbeats 400000 in
theorem filtCheck_any (nm : ByteArray) (L : List RuleV) (v : Value) (w : World) (h : Rd w w.heap.size 10 v L.length (rcells L)) :
    Calls Tryz.prog 13 #[.agg #[.string nm, v]] w fun e w' => e = .returned (.int .i64 (filtE L)) ∧ Below w.heap.size w w' := by
  have hW : Below w.heap.size w (w.alloc (.cells #[.string nm, v] 54)) := below1 w _
  have h' := (h.below hW).mono hW.size
  obtain ⟨A, c, rfl, hc⟩ := h.form
  by_cases h1 : 256 < L.length
  · have hE := Lib.hid (filtE_1 h1)
    have h2 : (256 : Int) < (L.length : Int) := by omega
    clear h h'
    go_enter Tryz.func13, Tryz.ntmps13
    go_wp2
    go_ret
    exact ⟨ret_int hE.out.symm, hW⟩
  · have h2 : ¬ (256 : Int) < (L.length : Int) := by omega
    have hcon := Lib.hid (containsRule_any L _ (fun r => !mayB r) 30 #[] _ (enters_of Tryz.func30 (by kernel_rfl) rfl) (notMay_pred _) h' (by omega))
    clear h h'
    by_cases h3 : L.any (fun r => !mayB r) = true
    · have hE := Lib.hid (filtE_2 h1 h3)
      have H3 := Lib.hid h3
      clear h3 h1
      generalize L.any (fun r => !mayB r) = B at *
      go_enter Tryz.func13, Tryz.ntmps13
      go_wp2_with fail
      refine hcon.out.mono ?_
      rintro e w1 ⟨rfl, hb⟩
      have hB := H3.out
      have hbw := below_call hW hb
      go_wp2
      go_ret
      exact ⟨ret_int hE.out.symm, hbw⟩
    · have h3' : L.any (fun r => !mayB r) = false := by simpa using h3
      have hE := Lib.hid (filtE_3 h1 h3')
      have H3 := Lib.hid h3'
      clear h3 h3' h1
      generalize L.any (fun r => !mayB r) = B at *
      go_enter Tryz.func13, Tryz.ntmps13
      go_wp2_with fail
      refine hcon.out.mono ?_
      rintro e w1 ⟨rfl, hb⟩
      have hB := H3.out
      have hbw := below_call hW hb
      go_wp2
      go_ret
      exact ⟨ret_int hE.out.symm, hbw⟩

end Go.Proofs.YthhcaoljejifeaaGreat

/-
  Walks over the filter's layer: whole filters: the reference's Check, Decides.
-/
namespace Go.Proofs.YthhcaoljejifeaaGreat
open Go Go.RowKit Go.Sort

theorem rcell {L : List RuleV} {k i : Nat} {r : RuleV} {v : Value} (h : L[k]? = some r) (hv : r.enc[i]? = some v) : (rcells L)[k * 10 + i]? = some v := flat_get RuleV.enc 10 rule_len L k i r v h hv

set_option maxRecDepth 100000 in
set_option maxHeartbeats 1000000 in
theorem refFiltCheck_any (nm : ByteArray) (L : List RuleV) (v : Value) (w : World) (h : Rd w w.heap.size 10 v L.length (rcells L)) :
    Calls Tryz.prog 10 #[.agg #[.string nm, v]] w fun e w' => e = .returned (.int .i64 (filtE L)) ∧ Below w.heap.size w w' := by
  by_cases h1 : 256 < L.length
  · obtain ⟨A, c, rfl, hc⟩ := h.form
    have hE := Lib.hid (filtE_1 h1)
    have h2 : (256 : Int) < (L.length : Int) := by omega
    clear h
    go_enter Tryz.func10, Tryz.ntmps10
    go_wp2
    go_ret
    exact ⟨ret_int hE.out.symm, below1 w _⟩
  · have h2 : ¬ (256 : Int) < (L.length : Int) := by omega
    have H1 := Lib.hid h1
    by_cases h0 : L.length = 0
    · obtain ⟨A, c, rfl, hc⟩ := h.form
      have e1 : L = [] := List.eq_nil_of_length_eq_zero h0
      subst e1
      clear h h1
      go_enter Tryz.func10, Tryz.ntmps10
      go_wp2
      refine wp_loop_rounds 1 ?_
      rw [rounds_succ]
      go_wp2
      go_ret
      exact ⟨rfl, below1 w _⟩
    · obtain ⟨b, off, c, rfl, hc, hbB, hcell⟩ := h.posAt (by omega)
      clear h
      have HC := Lib.hid hcell
      clear hcell
      go_enter Tryz.func10, Tryz.ntmps10
      go_wp2
      go_loopw [3] (fun i wr => ∃ k : Nat, i = .int .i64 k ∧ k ≤ L.length ∧ Hid (∀ (j : Nat) (r : RuleV), j < k → L[j]? = some r → mayB r = true) ∧ wr.heap[w.heap.size]? = some (.cells #[.string nm, .slice (some ⟨b, off, none⟩) L.length c] 54 (0, 0)) ∧ Below w.heap.size w wr) (fun i _ => L.length - (intOf i).toNat)
      case atStart => exact ⟨0, rfl, by omega, fun j r hj => absurd hj (by omega), blk1 w _, below1 w _⟩
      case round =>
        obtain ⟨k, rfl, hk, hmay, hblk, hnx⟩ := hrel
        obtain ⟨ca, cb, _, _⟩ := two_cells hblk
        have HB := Lib.hid hblk
        clear hblk
        by_cases hlt : k < L.length
        · obtain ⟨r, hr⟩ : ∃ r, L[k]? = some r := ⟨_, List.getElem?_eq_getElem hlt⟩
          have hI : (k : Int) < (L.length : Int) := by omega
          have c0 : wr.cell? ⟨b, off + k * 10, none⟩ = some (.bool r.permit) := (hnx.cell hbB).trans (HC.out k 0 _ (rcell hr rfl))
          have c1 : wr.cell? ⟨b, off + k * 10 + 1, none⟩ = some (.int .i64 r.proto) := (hnx.cell hbB).trans (HC.out k 1 _ (rcell hr rfl))
          have c2 : wr.cell? ⟨b, off + k * 10 + 2, none⟩ = some (.int .u32 r.sa) := (hnx.cell hbB).trans (HC.out k 2 _ (rcell hr rfl))
          have c3 : wr.cell? ⟨b, off + k * 10 + 3, none⟩ = some (.int .i64 r.sn) := (hnx.cell hbB).trans (HC.out k 3 _ (rcell hr rfl))
          have c4 : wr.cell? ⟨b, off + k * 10 + 4, none⟩ = some (.int .u32 r.da) := (hnx.cell hbB).trans (HC.out k 4 _ (rcell hr rfl))
          have c5 : wr.cell? ⟨b, off + k * 10 + 5, none⟩ = some (.int .i64 r.dn) := (hnx.cell hbB).trans (HC.out k 5 _ (rcell hr rfl))
          have c6 : wr.cell? ⟨b, off + k * 10 + 6, none⟩ = some (.int .u32 r.sl) := (hnx.cell hbB).trans (HC.out k 6 _ (rcell hr rfl))
          have c7 : wr.cell? ⟨b, off + k * 10 + 7, none⟩ = some (.int .u32 r.sh) := (hnx.cell hbB).trans (HC.out k 7 _ (rcell hr rfl))
          have c8 : wr.cell? ⟨b, off + k * 10 + 8, none⟩ = some (.int .u32 r.dl) := (hnx.cell hbB).trans (HC.out k 8 _ (rcell hr rfl))
          have c9 : wr.cell? ⟨b, off + k * 10 + 9, none⟩ = some (.int .u32 r.dh) := (hnx.cell hbB).trans (HC.out k 9 _ (rcell hr rfl))
          have HR := Lib.hid hr
          clear hr
          by_cases hm : mayB r = true
          · have hm' : mayB r = true := hm
            have HM := Lib.hid hm
            clear hm
            go_wp2_with fail
            refine (refMay_any r _).mono ?_
            rintro e w1 ⟨rfl, hb⟩
            have J := Lib.hid (blk_below hb HB.out)
            have hnx1 := hnx.trans (hb.mono hnx.size)
            obtain ⟨ca', cb', _, _⟩ := two_cells J.out
            clear hb hnx c0 c1 c2 c3 c4 c5 c6 c7 c8 c9 ca cb
            go_wp2
            refine ⟨⟨k + 1, by go_num, by omega, fun j r' hj hr' => ?_, J.out, hnx1⟩, by simp only [intOf]; omega⟩
            by_cases hjk : j = k
            · subst hjk
              have := HR.out
              rw [this] at hr'
              injection hr' with hr'
              rw [← hr']; exact HM.out
            · exact hmay.out j r' (by omega) hr'
          · have hm' : mayB r = false := by simpa using hm
            have HM := Lib.hid hm'
            clear hm
            go_wp2_with fail
            refine (refMay_any r _).mono ?_
            rintro e w1 ⟨rfl, hb⟩
            have hnx1 := hnx.trans (hb.mono hnx.size)
            clear hb hnx c0 c1 c2 c3 c4 c5 c6 c7 c8 c9 ca cb
            go_wp2
            go_ret
            refine ⟨ret_int (filtE_2 H1.out ?_).symm, hnx1⟩
            rw [List.any_eq_true]
            exact ⟨r, List.mem_of_getElem? HR.out, by simp [HM.out]⟩
        · go_wp2
          go_ret
          refine ⟨ret_int (filtE_3 H1.out ?_).symm, hnx⟩
          rw [List.any_eq_false]
          intro r hr
          obtain ⟨j, hj, hjr⟩ := List.getElem_of_mem hr
          have := hmay.out j r (by omega) (by rw [List.getElem?_eq_getElem hj, hjr])
          simp [this]

end Go.Proofs.YthhcaoljejifeaaGreat

/-
  What a rule asks of a space (written by wip/gen/genfr1.py).
-/
namespace Go.Proofs.YthhcaoljejifeaaGreat
open Go Go.RowKit Go.ChangeMaps Go.MapKept Go.Maps Go.Lib Go.Sort

/-- One number to another one, as a span. -/
def spanOf (lo hi : Nat) (h1 : lo < 4294967296) (h2 : hi < 4294967296) : SpanV := ⟨lo, hi, by omega, by omega⟩
theorem formOf_one (x : SpanV) (h : x.lo ≤ x.hi) : formOf [x] = [x] := theSet_eq (by simpa [NF] using h) fun _ => rfl
theorem numsF_one (a n M : Nat) (x : SpanV) : numsF a n M [x] = spanF a n x.lo.toNat (min x.hi.toNat M) := funext fun s => by simp [numsF]
theorem numsF_wid (a n M : Nat) (x : SpanV) (h : a + n ≤ 104) (hn : n ≤ 32) (k : Nat) : Wid (numsF a n M ([x].take k)) 576 := by
  cases k with
  | zero => exact (Wid.seg (a := 0) (b := 0) (k := 1) (Hangs.const false 0 0) (by omega) (fun v => CutLe.const false v)).mono (by omega)
  | succ k =>
    rw [List.take_of_length_le (by simp), numsF_one]
    exact spanF_wid _ _ _ _ h hn
/-- What a rule asks, one behind the other. -/
def askF (r : RuleV) : Nat → Fun
  | 0 => bitsF 0 0 r.sn.toNat (r.sa.toNat / 2 ^ (32 - r.sn.toNat)) r.sn.toNat
  | 1 => bitsF 32 0 r.dn.toNat (r.da.toNat / 2 ^ (32 - r.dn.toNat)) r.dn.toNat
  | 2 => spanF 72 16 r.sl.toNat r.sh.toNat
  | 3 => spanF 88 16 r.dl.toNat r.dh.toNat
  | _ => spanF 64 8 r.proto.toNat r.proto.toNat
structure RuleOk (r : RuleV) : Prop where
  p : -1 ≤ r.proto ∧ r.proto ≤ 255
  s : chk r.sa r.sn = 0 ∧ 0 ≤ r.sn ∧ r.sn ≤ 32
  d : chk r.da r.dn = 0 ∧ 0 ≤ r.dn ∧ r.dn ≤ 32
  sp : r.sl ≤ r.sh ∧ r.sh ≤ 65535
  dp : r.dl ≤ r.dh ∧ r.dh ≤ 65535
theorem chk_bits {a n : Int} (h : chk a n = 0) : 0 ≤ n ∧ n ≤ 32 := by
  unfold chk at h
  split at h
  · cases h
  · omega
theorem RuleOk.of {r : RuleV} (h : mayB r = true) : RuleOk r := by
  unfold mayB portsB at h
  simp only [Bool.and_eq_true, decide_eq_true_eq] at h
  obtain ⟨⟨⟨⟨⟨h1, h2⟩, h3⟩, h4⟩, h5⟩, h6⟩ := h
  exact ⟨⟨h1, h2⟩, ⟨h3, chk_bits h3⟩, ⟨h4, chk_bits h4⟩, h5, h6⟩
/-- The boxes that a rule's asks see. -/
structure AskBox (w : World) (S sb rb : Nat) (r : RuleV) : Prop where
  s : w.heap[sb]? = some (.cells #[.pointer (some ⟨S, 0, none⟩)] 76 (0, 0))
  r : w.heap[rb]? = some (.cells #[.bool r.permit, .int .i64 r.proto, .int .u32 r.sa, .int .i64 r.sn, .int .u32 r.da, .int .i64 r.dn, .int .u32 r.sl, .int .u32 r.sh, .int .u32 r.dl, .int .u32 r.dh] 71 (0, 0))
section
variable {w : World} {B S km : Nat} {A : Blks} {Mo : Nat} {σ : Sg}
set_option maxRecDepth 100000
set_option maxHeartbeats 2000000
theorem ask0_yes (h : SpOk w B S km A Mo σ) (r : RuleV) (ok : RuleOk r) (sb rb : Nat) (hb : AskBox w S sb rb r) (hl : σ.N.length + 1216 ≤ 2147483647) :
    Calls Tryz.prog 55 #[.pointer (some ⟨sb, 0, none⟩), .pointer (some ⟨rb, 0, none⟩)] w (SpRes w B S km A Mo σ (askF r 0) 1216 1216) := by
  have c0 := cell0 hb.s
  have c1 : w.cell? ⟨rb, 2, none⟩ = some (.int .u32 r.sa) := cell_of_row _ _ 2 _ _ (0, 0) hb.r
  have c2 : w.cell? ⟨rb, 3, none⟩ = some (.int .i64 r.sn) := cell_of_row _ _ 3 _ _ (0, 0) hb.r
  obtain ⟨a, ha⟩ : ∃ a : Nat, r.sa = a := ⟨r.sa.toNat, by have := r.hsa; omega⟩
  obtain ⟨n, hn⟩ : ∃ n : Nat, r.sn = n := ⟨r.sn.toNat, by have := ok.s.2.1; omega⟩
  have hck := ok.s.1
  have hnb := ok.s.2
  have hab := r.hsa
  have hF : askF r 0 = bitsF (32 * 0) 0 n (a / 2 ^ (32 - n)) n := by show bitsF 0 0 r.sn.toNat (r.sa.toNat / 2 ^ (32 - r.sn.toNat)) r.sn.toNat = _; rw [ha, hn]; rfl
  rw [hF]
  rw [ha, hn] at hck
  rw [ha] at c1 hab
  rw [hn] at c2 hnb
  have HP := Lib.hid (show Calls Tryz.prog 56 #[.pointer (some ⟨S, 0, none⟩), .int .i64 0, .agg #[.int .u32 a, .int .i64 n]] w (SpRes w B S km A Mo σ (bitsF (32 * 0) 0 n (a / 2 ^ (32 - n)) n) (3 * n) (3 * n)) from prefix_yes h 0 a n (by omega) (by omega) (by omega) hck (by omega))
  have hn2 : 3 * n ≤ 1216 := by omega
  clear h hb hF ha hn hck ok
  go_enter Tryz.func55, Tryz.ntmps55
  go_wp2_with ((with_reducible refine HP.out.mono ?_); rintro e W2 hr; have HR := Lib.hid (hr.mono hn2 hn2); obtain ⟨q, c, rfl⟩ := hr.form; clear hr)
  go_ret2
  exact HR.out
theorem ask1_yes (h : SpOk w B S km A Mo σ) (r : RuleV) (ok : RuleOk r) (sb rb : Nat) (hb : AskBox w S sb rb r) (hl : σ.N.length + 1216 ≤ 2147483647) :
    Calls Tryz.prog 57 #[.pointer (some ⟨sb, 0, none⟩), .pointer (some ⟨rb, 0, none⟩)] w (SpRes w B S km A Mo σ (askF r 1) 1216 1216) := by
  have c0 := cell0 hb.s
  have c1 : w.cell? ⟨rb, 4, none⟩ = some (.int .u32 r.da) := cell_of_row _ _ 4 _ _ (0, 0) hb.r
  have c2 : w.cell? ⟨rb, 5, none⟩ = some (.int .i64 r.dn) := cell_of_row _ _ 5 _ _ (0, 0) hb.r
  obtain ⟨a, ha⟩ : ∃ a : Nat, r.da = a := ⟨r.da.toNat, by have := r.hda; omega⟩
  obtain ⟨n, hn⟩ : ∃ n : Nat, r.dn = n := ⟨r.dn.toNat, by have := ok.d.2.1; omega⟩
  have hck := ok.d.1
  have hnb := ok.d.2
  have hab := r.hda
  have hF : askF r 1 = bitsF (32 * 1) 0 n (a / 2 ^ (32 - n)) n := by show bitsF 32 0 r.dn.toNat (r.da.toNat / 2 ^ (32 - r.dn.toNat)) r.dn.toNat = _; rw [ha, hn]; rfl
  rw [hF]
  rw [ha, hn] at hck
  rw [ha] at c1 hab
  rw [hn] at c2 hnb
  have HP := Lib.hid (show Calls Tryz.prog 56 #[.pointer (some ⟨S, 0, none⟩), .int .i64 1, .agg #[.int .u32 a, .int .i64 n]] w (SpRes w B S km A Mo σ (bitsF (32 * 1) 0 n (a / 2 ^ (32 - n)) n) (3 * n) (3 * n)) from prefix_yes h 1 a n (by omega) (by omega) (by omega) hck (by omega))
  have hn2 : 3 * n ≤ 1216 := by omega
  clear h hb hF ha hn hck ok
  go_enter Tryz.func57, Tryz.ntmps57
  go_wp2_with ((with_reducible refine HP.out.mono ?_); rintro e W2 hr; have HR := Lib.hid (hr.mono hn2 hn2); obtain ⟨q, c, rfl⟩ := hr.form; clear hr)
  go_ret2
  exact HR.out
theorem ask2_yes (h : SpOk w B S km A Mo σ) (r : RuleV) (ok : RuleOk r) (sb rb : Nat) (hb : AskBox w S sb rb r) (hl : σ.N.length + 1216 ≤ 2147483647) :
    Calls Tryz.prog 58 #[.pointer (some ⟨sb, 0, none⟩), .pointer (some ⟨rb, 0, none⟩)] w (SpRes w B S km A Mo σ (askF r 2) 1216 1216) := by
  have c0 := cell0 hb.s
  have c1 : w.cell? ⟨rb, 6, none⟩ = some (.int .u32 r.sl) := cell_of_row _ _ 6 _ _ (0, 0) hb.r
  have c2 : w.cell? ⟨rb, 7, none⟩ = some (.int .u32 r.sh) := cell_of_row _ _ 7 _ _ (0, 0) hb.r
  obtain ⟨lo, hlo⟩ : ∃ a : Nat, r.sl = a := ⟨r.sl.toNat, by have := r.hsl; omega⟩
  obtain ⟨hi, hhi⟩ : ∃ a : Nat, r.sh = a := ⟨r.sh.toNat, by have := r.hsh; omega⟩
  have hbd := ok.sp
  have hF : askF r 2 = spanF 72 16 lo (min hi 65535) := by show spanF 72 16 r.sl.toNat r.sh.toNat = _; rw [hlo, hhi, Int.toNat_natCast, Int.toNat_natCast, Nat.min_eq_left (by omega)]
  rw [hF]
  rw [hlo] at c1
  rw [hhi] at c2
  rw [hlo, hhi] at hbd
  have l1 : lo < 4294967296 := by omega
  have l2 : hi < 4294967296 := by omega
  have hbw := below1 w (.cells #[.int .u32 lo, .int .u32 hi] 66)
  have hrd : Rd (w.alloc (.cells #[.int .u32 lo, .int .u32 hi] 66)) (w.alloc (.cells #[.int .u32 lo, .int .u32 hi] 66)).heap.size 2 (.slice (some ⟨w.heap.size, 0, none⟩) 1 1) 1 (scells [spanOf lo hi l1 l2]) := Rd.of_blk (blk1 w (.cells #[.int .u32 lo, .int .u32 hi] 66)) (Nat.le_refl _) rfl
  have HS := Lib.hid ((h.below hbw))
  have HK := Lib.hid (h.kept hbw)
  have hnum := numbers3_yes HS.out [spanOf lo hi l1 l2] _ hrd (by simp) [spanOf lo hi l1 l2] [] (by rw [List.append_nil]; exact formOf_one _ (by show (lo : Int) ≤ hi; omega)) (by intro x hx; simp at hx; subst hx; show (lo : Int) ≤ 65535; omega) (.inl rfl) 576 (fun k _ => numsF_wid 72 16 65535 _ (by omega) (by omega) k) (by show _ + 1 * _ ≤ _; omega)
  rw [numsF_one] at hnum
  have HN := Lib.hid (show Calls Tryz.prog 59 #[.pointer (some ⟨S, 0, none⟩), .int .i64 3, .slice (some ⟨w.heap.size, 0, none⟩) 1 1] (w.alloc (.cells #[.int .u32 lo, .int .u32 hi] 66)) (SpRes (w.alloc (.cells #[.int .u32 lo, .int .u32 hi] 66)) B S km A Mo σ (spanF 72 16 lo (min hi 65535)) (1 * (576 + 640)) (1 * (576 + 640))) from hnum)
  clear h hb hF hlo hhi ok hbd hbw hrd hnum HS
  go_enter Tryz.func58, Tryz.ntmps58
  go_wp2_with ((with_reducible refine HN.out.mono ?_); rintro e W2 hr; have HR := Lib.hid ((hr.after (To.refl σ) HK.out).mono (show 0 + 1 * (576 + 640) ≤ 1216 by omega) (show 0 + 1 * (576 + 640) ≤ 1216 by omega)); obtain ⟨q, c, rfl⟩ := hr.form; clear hr)
  go_ret2
  exact HR.out
theorem ask3_yes (h : SpOk w B S km A Mo σ) (r : RuleV) (ok : RuleOk r) (sb rb : Nat) (hb : AskBox w S sb rb r) (hl : σ.N.length + 1216 ≤ 2147483647) :
    Calls Tryz.prog 60 #[.pointer (some ⟨sb, 0, none⟩), .pointer (some ⟨rb, 0, none⟩)] w (SpRes w B S km A Mo σ (askF r 3) 1216 1216) := by
  have c0 := cell0 hb.s
  have c1 : w.cell? ⟨rb, 8, none⟩ = some (.int .u32 r.dl) := cell_of_row _ _ 8 _ _ (0, 0) hb.r
  have c2 : w.cell? ⟨rb, 9, none⟩ = some (.int .u32 r.dh) := cell_of_row _ _ 9 _ _ (0, 0) hb.r
  obtain ⟨lo, hlo⟩ : ∃ a : Nat, r.dl = a := ⟨r.dl.toNat, by have := r.hdl; omega⟩
  obtain ⟨hi, hhi⟩ : ∃ a : Nat, r.dh = a := ⟨r.dh.toNat, by have := r.hdh; omega⟩
  have hbd := ok.dp
  have hF : askF r 3 = spanF 88 16 lo (min hi 65535) := by show spanF 88 16 r.dl.toNat r.dh.toNat = _; rw [hlo, hhi, Int.toNat_natCast, Int.toNat_natCast, Nat.min_eq_left (by omega)]
  rw [hF]
  rw [hlo] at c1
  rw [hhi] at c2
  rw [hlo, hhi] at hbd
  have l1 : lo < 4294967296 := by omega
  have l2 : hi < 4294967296 := by omega
  have hbw := below1 w (.cells #[.int .u32 lo, .int .u32 hi] 66)
  have hrd : Rd (w.alloc (.cells #[.int .u32 lo, .int .u32 hi] 66)) (w.alloc (.cells #[.int .u32 lo, .int .u32 hi] 66)).heap.size 2 (.slice (some ⟨w.heap.size, 0, none⟩) 1 1) 1 (scells [spanOf lo hi l1 l2]) := Rd.of_blk (blk1 w (.cells #[.int .u32 lo, .int .u32 hi] 66)) (Nat.le_refl _) rfl
  have HS := Lib.hid ((h.below hbw))
  have HK := Lib.hid (h.kept hbw)
  have hnum := numbers4_yes HS.out [spanOf lo hi l1 l2] _ hrd (by simp) [spanOf lo hi l1 l2] [] (by rw [List.append_nil]; exact formOf_one _ (by show (lo : Int) ≤ hi; omega)) (by intro x hx; simp at hx; subst hx; show (lo : Int) ≤ 65535; omega) (.inl rfl) 576 (fun k _ => numsF_wid 88 16 65535 _ (by omega) (by omega) k) (by show _ + 1 * _ ≤ _; omega)
  rw [numsF_one] at hnum
  have HN := Lib.hid (show Calls Tryz.prog 59 #[.pointer (some ⟨S, 0, none⟩), .int .i64 4, .slice (some ⟨w.heap.size, 0, none⟩) 1 1] (w.alloc (.cells #[.int .u32 lo, .int .u32 hi] 66)) (SpRes (w.alloc (.cells #[.int .u32 lo, .int .u32 hi] 66)) B S km A Mo σ (spanF 88 16 lo (min hi 65535)) (1 * (576 + 640)) (1 * (576 + 640))) from hnum)
  clear h hb hF hlo hhi ok hbd hbw hrd hnum HS
  go_enter Tryz.func60, Tryz.ntmps60
  go_wp2_with ((with_reducible refine HN.out.mono ?_); rintro e W2 hr; have HR := Lib.hid ((hr.after (To.refl σ) HK.out).mono (show 0 + 1 * (576 + 640) ≤ 1216 by omega) (show 0 + 1 * (576 + 640) ≤ 1216 by omega)); obtain ⟨q, c, rfl⟩ := hr.form; clear hr)
  go_ret2
  exact HR.out
theorem ask4_yes (h : SpOk w B S km A Mo σ) (r : RuleV) (ok : RuleOk r) (hp : 0 ≤ r.proto) (sb rb : Nat) (hb : AskBox w S sb rb r) (hl : σ.N.length + 1216 ≤ 2147483647) :
    Calls Tryz.prog 61 #[.pointer (some ⟨sb, 0, none⟩), .pointer (some ⟨rb, 0, none⟩)] w (SpRes w B S km A Mo σ (askF r 4) 1216 1216) := by
  have c0 := cell0 hb.s
  have c1 : w.cell? ⟨rb, 1, none⟩ = some (.int .i64 r.proto) := cell_of_row _ _ 1 _ _ (0, 0) hb.r
  obtain ⟨lo, hlo⟩ : ∃ a : Nat, r.proto = a := ⟨r.proto.toNat, by omega⟩
  have hbd := ok.p
  have hF : askF r 4 = spanF 64 8 lo (min lo 255) := by show spanF 64 8 r.proto.toNat r.proto.toNat = _; rw [hlo, Int.toNat_natCast, Nat.min_eq_left (by omega)]
  rw [hF]
  rw [hlo] at c1 hbd
  have l1 : lo < 4294967296 := by omega
  have l2 : (lo : Int) ≤ 255 := by omega
  have hbw := below1 w (.cells #[.int .u32 lo, .int .u32 lo] 66)
  have hrd : Rd (w.alloc (.cells #[.int .u32 lo, .int .u32 lo] 66)) (w.alloc (.cells #[.int .u32 lo, .int .u32 lo] 66)).heap.size 2 (.slice (some ⟨w.heap.size, 0, none⟩) 1 1) 1 (scells [spanOf lo lo l1 l1]) := Rd.of_blk (blk1 w (.cells #[.int .u32 lo, .int .u32 lo] 66)) (Nat.le_refl _) rfl
  have HS := Lib.hid ((h.below hbw))
  have HK := Lib.hid (h.kept hbw)
  have hnum := numbers2_yes HS.out [spanOf lo lo l1 l1] _ hrd (by simp) [spanOf lo lo l1 l1] [] (by rw [List.append_nil]; exact formOf_one _ (by show (lo : Int) ≤ lo; omega)) (by intro x hx; simp at hx; subst hx; show (lo : Int) ≤ 255; omega) (.inl rfl) 576 (fun k _ => numsF_wid 64 8 255 _ (by omega) (by omega) k) (by show _ + 1 * _ ≤ _; omega)
  rw [numsF_one] at hnum
  have HN := Lib.hid (show Calls Tryz.prog 59 #[.pointer (some ⟨S, 0, none⟩), .int .i64 2, .slice (some ⟨w.heap.size, 0, none⟩) 1 1] (w.alloc (.cells #[.int .u32 lo, .int .u32 lo] 66)) (SpRes (w.alloc (.cells #[.int .u32 lo, .int .u32 lo] 66)) B S km A Mo σ (spanF 64 8 lo (min lo 255)) (1 * (576 + 608)) (1 * (576 + 608))) from hnum)
  clear h hb hF hlo ok hbd hbw hrd hnum HS hp
  go_enter Tryz.func61, Tryz.ntmps61
  go_wp2_with ((with_reducible refine HN.out.mono ?_); rintro e W2 hr; have HR := Lib.hid ((hr.after (To.refl σ) HK.out).mono (show 0 + 1 * (576 + 608) ≤ 1216 by omega) (show 0 + 1 * (576 + 608) ≤ 1216 by omega)); obtain ⟨q, c, rfl⟩ := hr.form; clear hr)
  go_ret2
  exact HR.out
end
end Go.Proofs.YthhcaoljejifeaaGreat

/-
  The walk of the arena's below, whatever is done at each node.
-/
namespace Go.Proofs.YthhcaoljejifeaaGreat
open Go Go.RowKit Go.ChangeMaps Go.MapKept Go.Maps Go.Lib Go.Sort

/-- Only blocks of the frame have turned, and blocks were laid. -/
structure Calm (Fr : World → Nat → Prop) (W W' : World) : Prop where
  os : W'.os = W.os
  tape : W'.tape = W.tape
  output : W'.output = W.output
  size : W.heap.size ≤ W'.heap.size
  block : ∀ k, k < W.heap.size → ¬ Fr W k → W'.heap[k]? = W.heap[k]?
theorem Calm.of_below {Fr : World → Nat → Prop} {W W' : World} (h : Below W.heap.size W W') : Calm Fr W W' := ⟨h.os, h.tape, h.output, h.size, fun k hk _ => h.block k hk⟩
theorem Calm.of_grown {Fr : World → Nat → Prop} {W W' : World} {b : Nat} (h : W.grownBy W' (some b)) (hb : Fr W b) : Calm Fr W W' :=
  ⟨h.os, h.tape, h.output, h.size, fun k hk hn => h.block k hk (fun e => hn (by injection e with e; rw [e]; exact hb))⟩
/-- The nodes that below comes to, behind F. -/
def bel (N : List Nd) (n f : Nat) (F : List Nat) : List Nat := dfs N [] n f F
/-- What is done at a node: a state by the nodes that were met, and blocks that it leaves. -/
structure DoOk (fid : FuncId) (caps : Array Value) (B : Nat) (A : Blks) (V Mo : Nat) (N : List Nd) (H G : List Nat) (St : List Nat → World → Prop) (Fr : World → Nat → Prop) : Prop where
  en : ∀ (args : Array Value) (w : World), (callFunc fid args).run Tryz.prog w = .ok (.enter fid args) w
  ar : ∀ F W, St F W → ArAt W B A V Mo N H G
  calm : ∀ F W W', St F W → Calm Fr W W' → St F W' ∧ ∀ k, Fr W k → Fr W' k
  fresh : ∀ F W W' k, St F W → Calm Fr W W' → W.heap.size ≤ k → k < W'.heap.size → Fr W' k
  step : ∀ F (f : Nat) W, 2 ≤ f → f < N.length → f ∉ F → St F W → Calls Tryz.prog fid (#[.int .i32 f] ++ caps) W fun e W' => e = .returned (.tuple #[]) ∧ St (F ++ [f]) W' ∧ W.heap.size ≤ W'.heap.size ∧ ∀ k, Fr W k → W'.heap[k]? = W.heap[k]? ∧ Fr W' k
/-- The frame of below's walk. -/
structure BSt (A : Blks) (fid : FuncId) (caps : Array Value) (St : List Nat → World → Prop) (Fr : World → Nat → Prop) (bs bd bw ba bm : Nat) (F : List Nat) (W : World) : Prop where
  s : W.heap[bs]? = some (.cells #[.map (some bm)] 119 (0, 0))
  d : W.heap[bd]? = some (.cells #[.func (.func fid) #[] caps] 139 (0, 0))
  k : W.heap[bw]? = some (.cells #[.func (.func 87) #[] #[.pointer (some ⟨bs, 0, none⟩), .pointer (some ⟨bd, 0, none⟩), .pointer (some ⟨bw, 0, none⟩), .pointer (some ⟨ba, 0, none⟩)]] 139 (0, 0))
  a : W.heap[ba]? = some (.cells #[.pointer (some ⟨A.a, 0, none⟩)] 96 (0, 0))
  m : MapAt Tryz.prog 21 W bm (seenL F)
  ne : bs ≠ bm ∧ bd ≠ bm ∧ bw ≠ bm ∧ ba ≠ bm
  fr : Fr W bs ∧ Fr W bd ∧ Fr W bw ∧ Fr W ba ∧ Fr W bm
  st : St F W
theorem BSt.below {fid : FuncId} {caps : Array Value} {B : Nat} {A : Blks} {V Mo : Nat} {N : List Nd} {H G : List Nat} {St : List Nat → World → Prop} {Fr : World → Nat → Prop} (D : DoOk fid caps B A V Mo N H G St Fr) {bs bd bw ba bm : Nat} {F : List Nat} {W W' : World}
    (g : BSt A fid caps St Fr bs bd bw ba bm F W) (hb : Below W.heap.size W W') : BSt A fid caps St Fr bs bd bw ba bm F W' := by
  obtain ⟨h1, h2⟩ := D.calm F W W' g.st (.of_below hb)
  obtain ⟨f1, f2, f3, f4, f5⟩ := g.fr
  exact ⟨blk_below hb g.s, blk_below hb g.d, blk_below hb g.k, blk_below hb g.a, g.m.same (hb.block _ g.m.lt), g.ne, ⟨h2 _ f1, h2 _ f2, h2 _ f3, h2 _ f4, h2 _ f5⟩, h1⟩
/-- A node more that was seen. -/
theorem BSt.see {fid : FuncId} {caps : Array Value} {B : Nat} {A : Blks} {V Mo : Nat} {N : List Nd} {H G : List Nat} {St : List Nat → World → Prop} {Fr : World → Nat → Prop} (D : DoOk fid caps B A V Mo N H G St Fr) {bs bd bw ba bm : Nat} {F : List Nat} {f : Nat} {W w1 : World}
    (g : BSt A fid caps St Fr bs bd bw ba bm F W) (hm : MapAt Tryz.prog 21 w1 bm (putM (seenL F) (.int .i32 f) (.bool true))) (hg : W.grownBy w1 (some bm)) (h2 : 2 ≤ f) (hf : f ∉ F) :
    St F w1 ∧ MapAt Tryz.prog 21 w1 bm (seenL (F ++ [f])) ∧ (Fr w1 bs ∧ Fr w1 bd ∧ Fr w1 bw ∧ Fr w1 ba ∧ Fr w1 bm) ∧ (∀ k, k < W.heap.size → k ≠ bm → w1.heap[k]? = W.heap[k]?) := by
  obtain ⟨f1, f2, f3, f4, f5⟩ := g.fr
  obtain ⟨h1, h3⟩ := D.calm F W w1 g.st (.of_grown hg f5)
  rw [seenL_put F f h2 hf] at hm
  exact ⟨h1, hm, ⟨h3 _ f1, h3 _ f2, h3 _ f3, h3 _ f4, h3 _ f5⟩, fun k hk hkm => hg.block k hk (fun e => hkm (by injection e))⟩
theorem BSt.made {fid : FuncId} {caps : Array Value} {A : Blks} {St : List Nat → World → Prop} {Fr : World → Nat → Prop} {bs bd bw ba bm : Nat} {F : List Nat} {f : Nat} {W w1 w2 : World}
    (g : BSt A fid caps St Fr bs bd bw ba bm F W) (hm : MapAt Tryz.prog 21 w1 bm (seenL (F ++ [f]))) (hfr : Fr w1 bs ∧ Fr w1 bd ∧ Fr w1 bw ∧ Fr w1 ba ∧ Fr w1 bm) (hk : ∀ k, k < W.heap.size → k ≠ bm → w1.heap[k]? = W.heap[k]?)
    (hst : St (F ++ [f]) w2) (h2 : ∀ k, Fr w1 k → w2.heap[k]? = w1.heap[k]? ∧ Fr w2 k) : BSt A fid caps St Fr bs bd bw ba bm (F ++ [f]) w2 := by
  obtain ⟨n1, n2, n3, n4⟩ := g.ne
  obtain ⟨f1, f2, f3, f4, f5⟩ := hfr
  exact ⟨((h2 _ f1).1.trans (hk _ (lt_of_block g.s) n1)).trans g.s, ((h2 _ f2).1.trans (hk _ (lt_of_block g.d) n2)).trans g.d, ((h2 _ f3).1.trans (hk _ (lt_of_block g.k) n3)).trans g.k, ((h2 _ f4).1.trans (hk _ (lt_of_block g.a) n4)).trans g.a,
    hm.same (h2 _ f5).1, g.ne, ⟨(h2 _ f1).2, (h2 _ f2).2, (h2 _ f3).2, (h2 _ f4).2, (h2 _ f5).2⟩, hst⟩
set_option maxRecDepth 100000 in
set_option maxHeartbeats 8000000 in
theorem belowWalk_any {fid : FuncId} {caps : Array Value} {B : Nat} {A : Blks} {V Mo : Nat} {N : List Nd} {H G : List Nat} {St : List Nat → World → Prop} {Fr : World → Nat → Prop} (D : DoOk fid caps B A V Mo N H G St Fr) {bs bd bw ba bm : Nat} :
    ∀ (n f : Nat) (F : List Nat) (W : World), f < n → f < N.length → FOk N F → BSt A fid caps St Fr bs bd bw ba bm F W →
    Calls Tryz.prog 87 #[.int .i32 f, .pointer (some ⟨bs, 0, none⟩), .pointer (some ⟨bd, 0, none⟩), .pointer (some ⟨bw, 0, none⟩), .pointer (some ⟨ba, 0, none⟩)] W
      fun e W' => e = .returned (.tuple #[]) ∧ BSt A fid caps St Fr bs bd bw ba bm (bel N n f F) W' := by
  intro n
  induction n with
  | zero => intro f F W hf; omega
  | succ n ih =>
    intro f F W hfn hf hok hg
    have hAW := D.ar _ _ hg.st
    have hle : N.length ≤ 2147483647 := by obtain ⟨_, h⟩ := hAW; exact h.le
    have hwf : WF N := by obtain ⟨_, h⟩ := hAW; exact h.wf
    have hkf := key_i32 (a := (f : Int)) (by omega)
    have hl1 := hg.m.look i32_keyed Tryz.underlying119 (zero_bool W) false hkf
    rw [seenL_get] at hl1
    have L1 : (Instr.lookup 119 (.map (some bm)) (.int .i32 f) false).run Tryz.prog W = .ok ((if f < 2 ∨ f ∈ F then some (Value.bool true) else none).getD (.bool false)) W := hl1
    have c1 := cell0 hg.s
    have c2 := cell0 hg.d
    have HG := Lib.hid hg
    have HD := Lib.hid D
    clear hl1 hg hAW D
    by_cases hs : f < 2 ∨ f ∈ F
    · rw [if_pos hs] at L1
      have L1 : (Instr.lookup 119 (.map (some bm)) (.int .i32 f) false).run Tryz.prog W = .ok (.bool true) W := L1
      have HS := Lib.hid hs
      clear hs hwf
      go_enter Tryz.func87, Tryz.ntmps87
      go_wp2
      (try simp only [Exit.inBlock, Exit.then])
      refine bodyPost_ret (results_none rfl _ _ _) rfl ?_
      refine ⟨rfl, ?_⟩
      have : bel N (n + 1) f F = F := by
        show (if f < 2 ∨ f ∈ F ∨ f ∈ [] then F else _) = F
        rw [if_pos (by rcases HS.out with h | h; exact .inl h; exact .inr (.inl h))]
      rw [this]
      exact HG.out
    · rw [if_neg hs] at L1
      have L1 : (Instr.lookup 119 (.map (some bm)) (.int .i32 f) false).run Tryz.prog W = .ok (.bool false) W := L1
      have HS := Lib.hid hs
      have hf2 : 2 ≤ f := by omega
      have hfF : f ∉ F := fun h => hs (.inr h)
      have HX := Lib.hid (And.intro hf2 hfF)
      have hclo := hwf.lo f hf2 hf
      have hchi := hwf.hi f hf2 hf
      have hok1 := hok.snoc hf2 hf hfF
      have hok2 := dfs_ok hwf [] n (nd N f).lo (F ++ [f]) (by omega) hok1
      have IHL := Lib.hid (fun (W3 : World) (h3 : BSt A fid caps St Fr bs bd bw ba bm (F ++ [f]) W3) (W4 : World) (hb : Below W3.heap.size W3 W4) => ih (nd N f).lo (F ++ [f]) W4 (by omega) (by omega) hok1 (h3.below HD.out hb))
      have IHH := Lib.hid (fun (W5 : World) (hg5 : BSt A fid caps St Fr bs bd bw ba bm (bel N n (nd N f).lo (F ++ [f])) W5) (W6 : World) (hb : Below W5.heap.size W5 W6) => ih (nd N f).hi (bel N n (nd N f).lo (F ++ [f])) W6 (by omega) (by omega) hok2 (hg5.below HD.out hb))
      have HEQ : Hid (bel N (n + 1) f F = bel N n (nd N f).hi (bel N n (nd N f).lo (F ++ [f]))) := Lib.hid (by
        show (if f < 2 ∨ f ∈ F ∨ f ∈ [] then F else _) = _
        rw [if_neg (by
          rintro (h | h | h)
          · exact HS.out (.inl h)
          · exact HS.out (.inr h)
          · cases h)]
        rfl)
      have hI : (f : Int) < (N.length : Int) := by omega
      have hlb := lt_of_block HG.out.d
      have hen := HD.out.en
      clear hs hf2 hfF hclo hchi hok1 hok2 ih hok hfn hwf
      go_enter Tryz.func87, Tryz.ntmps87
      go_upto_region 2 with (refine wpList_mapAt rfl _ _ _ 119 4 rfl i32_keyed Tryz.underlying119 rfl (show MapAt _ _ W _ _ from HG.out.m) (.int .i32 f) (.bool true) _ rfl rfl hkf ?_; intro w1 hm1 hg1; obtain ⟨p1, p2, p3, p4⟩ := HG.out.see HD.out hm1 hg1 HX.out.1 HX.out.2; have P1 := Lib.hid p1; have P2 := Lib.hid p2; have P3 := Lib.hid p3; have P4 := Lib.hid p4; clear hm1 hg1 p1 p2 p3 p4)
      have c2' := cell0 ((P4.out bd hlb HG.out.ne.2.1).trans HG.out.d)
      clear c1 c2 L1
      go_upto_region 3 with (refine (HD.out.step F f w1 HX.out.1 hf HX.out.2 P1.out).mono ?_; rintro e w2 ⟨rfl, hst2, _, hfr2⟩; have HB2 := Lib.hid (HG.out.made P2.out P3.out P4.out hst2 hfr2); clear hst2 hfr2)
      have HA2 := Lib.hid (HD.out.ar _ _ HB2.out.st)
      have c1 := cell0 HB2.out.a
      have c2 := cell0 HB2.out.k
      obtain ⟨nv3, hA3⟩ := HA2.out
      obtain ⟨ng, cp, rfl, hat⟩ := hA3.at_node
      obtain ⟨_, x1, _⟩ := hat f hf
      have c3 : w2.cell? ⟨A.a, 2, none⟩ = some (.slice (some ⟨ng, 0, none⟩) N.length cp) := hA3.cellAt rfl
      clear hA3 hat c2' HA2
      have C1 := cell_regrown c1
      have C2 := cell_regrown c2
      have C3 := cell_regrown c3
      have X1 := cell_regrown x1
      refine wp_region_tail_below 9 (by kernel_rfl) (by kernel_rfl) ?_
      simp only [List.take_succ_cons, List.take_zero, List.drop_succ_cons, List.drop_zero]
      repeat (first | go_big_quiet_step (fail) | quiet_step (fail))
      refine wpQuiet_nil ?_
      intro W4 hw'
      obtain ⟨⟨nq, osq⟩, hw''⟩ := hw'
      subst hw''
      have HQ := Lib.hid (below_regrown w2 nq osq)
      clear C1 C2 C3 X1 c1 c2 c3 x1
      generalize grow (redrawn w2 nq) osq = W4 at *
      go_wp2_with fail
      refine (IHL.out w2 HB2.out W4 HQ.out).mono ?_
      rintro e W5 ⟨rfl, hg5⟩
      have HG5 := Lib.hid hg5
      clear hg5
      have HA5 := Lib.hid (HD.out.ar _ _ HG5.out.st)
      have c1 := cell0 HG5.out.a
      have c2 := cell0 HG5.out.k
      obtain ⟨nv5, hA5⟩ := HA5.out
      obtain ⟨ng5, cp5, rfl, hat5⟩ := hA5.at_node
      obtain ⟨_, _, x1⟩ := hat5 f hf
      have c3 : W5.cell? ⟨A.a, 2, none⟩ = some (.slice (some ⟨ng5, 0, none⟩) N.length cp5) := hA5.cellAt rfl
      clear hA5 hat5 HA5
      go_upto_region 4 with fail
      have C1 := cell_regrown c1
      have C2 := cell_regrown c2
      have C3 := cell_regrown c3
      have X1 := cell_regrown x1
      refine wp_region_tail_below 9 (by kernel_rfl) (by kernel_rfl) ?_
      simp only [List.take_succ_cons, List.take_zero, List.drop_succ_cons, List.drop_zero]
      repeat (first | go_big_quiet_step (fail) | quiet_step (fail))
      refine wpQuiet_nil ?_
      intro W6 hw'
      obtain ⟨⟨nq2, osq2⟩, hw''⟩ := hw'
      subst hw''
      have HQ2 := Lib.hid (below_regrown W5 nq2 osq2)
      clear C1 C2 C3 X1 c1 c2 c3 x1
      generalize grow (redrawn W5 nq2) osq2 = W6 at *
      go_wp2_with fail
      refine (IHH.out W5 HG5.out W6 HQ2.out).mono ?_
      rintro e W7 ⟨rfl, hg7⟩
      have HG7 := Lib.hid hg7
      clear hg7
      go_wp2
      go_end0
      refine ⟨rfl, ?_⟩
      rw [HEQ.out]
      exact HG7.out
end Go.Proofs.YthhcaoljejifeaaGreat

/-
  The arena's below, whatever is done at each node; its start.
-/
namespace Go.Proofs.YthhcaoljejifeaaGreat
open Go Go.RowKit Go.ChangeMaps Go.MapKept Go.Maps Go.Lib Go.Sort

/-- Where below's walk begins. -/
theorem BSt.start {fid : FuncId} {caps : Array Value} {B : Nat} {A : Blks} {V Mo : Nat} {N : List Nd} {H G : List Nat} {St : List Nat → World → Prop} {Fr : World → Nat → Prop} (D : DoOk fid caps B A V Mo N H G St Fr) {w w1 w2 : World} (hS : St [] w) (hg1 : (((w.alloc (.cells #[.pointer (some ⟨A.a, 0, none⟩)] 96)).alloc (.cells #[.func (.func fid) #[] caps] 139)).alloc (.map #[] 0)).grownBy w1 (some (w.heap.size + 1 + 1)))
    (hm2 : MapAt Tryz.prog 21 w2 (w.heap.size + 1 + 1) (putM (putM [] (.int .i32 0) (.bool true)) (.int .i32 1) (.bool true))) (hg2 : w1.grownBy w2 (some (w.heap.size + 1 + 1))) :
    ((w2.alloc (.cells #[.map (some (w.heap.size + 1 + 1))] 119)).alloc (.cells #[.nilFunc] 139)).heap[w2.heap.size + 1]? = some (.cells #[.nilFunc] 139 (0, 0)) ∧
      BSt A fid caps St Fr w2.heap.size (w.heap.size + 1) (w2.heap.size + 1) w.heap.size (w.heap.size + 1 + 1) [] (((w2.alloc (.cells #[.map (some (w.heap.size + 1 + 1))] 119)).alloc (.cells #[.nilFunc] 139)).setCell ⟨w2.heap.size + 1, 0, none⟩
        (.func (.func 87) #[] #[.pointer (some ⟨w2.heap.size, 0, none⟩), .pointer (some ⟨w.heap.size + 1, 0, none⟩), .pointer (some ⟨w2.heap.size + 1, 0, none⟩), .pointer (some ⟨w.heap.size, 0, none⟩)])) := by
  have hput : putM (putM [] (.int .i32 0) (.bool true)) (.int .i32 1) (.bool true) = seenL [] := by
    unfold putM
    simp [seenL, heldL]
  rw [hput] at hm2
  have ha := blk1 w (.cells #[.pointer (some ⟨A.a, 0, none⟩)] 96)
  have hf := blk1 (w.alloc (.cells #[.pointer (some ⟨A.a, 0, none⟩)] 96)) (.cells #[.func (.func fid) #[] caps] 139)
  have s1 : (w.alloc (.cells #[.pointer (some ⟨A.a, 0, none⟩)] 96)).heap.size = w.heap.size + 1 := by simp
  have s2 : ((w.alloc (.cells #[.pointer (some ⟨A.a, 0, none⟩)] 96)).alloc (.cells #[.func (.func fid) #[] caps] 139)).heap.size = w.heap.size + 1 + 1 := by simp
  have s3 : (((w.alloc (.cells #[.pointer (some ⟨A.a, 0, none⟩)] 96)).alloc (.cells #[.func (.func fid) #[] caps] 139)).alloc (.map #[] 0)).heap.size = w.heap.size + 1 + 1 + 1 := by simp
  rw [s1] at hf
  have z1 := hg1.size
  have z2 := hg2.size
  rw [s3] at z1
  have b1 := below1 (w.alloc (.cells #[.pointer (some ⟨A.a, 0, none⟩)] 96)) (.cells #[.func (.func fid) #[] caps] 139)
  have b2 := below1 ((w.alloc (.cells #[.pointer (some ⟨A.a, 0, none⟩)] 96)).alloc (.cells #[.func (.func fid) #[] caps] 139)) (.map #[] 0)
  have ha2 := blk_below b2 (blk_below b1 ha)
  have hf2 := blk_below b2 hf
  have e12 : ∀ k, k < w.heap.size + 1 + 1 → w2.heap[k]? = (((w.alloc (.cells #[.pointer (some ⟨A.a, 0, none⟩)] 96)).alloc (.cells #[.func (.func fid) #[] caps] 139)).alloc (.map #[] 0)).heap[k]? := fun k hk =>
    (hg2.block k (by omega) (fun e => by injection e; omega)).trans (hg1.block k (by rw [s3]; omega) (fun e => by injection e; omega))
  have hb0 := (below2 w (.cells #[.pointer (some ⟨A.a, 0, none⟩)] 96) (.cells #[.func (.func fid) #[] caps] 139)).alloc (by rw [s2]; omega) (.map #[] 0)
  generalize (((w.alloc (.cells #[.pointer (some ⟨A.a, 0, none⟩)] 96)).alloc (.cells #[.func (.func fid) #[] caps] 139)).alloc (.map #[] 0)) = W0 at *
  have hs2 := blk1 w2 (.cells #[.map (some (w.heap.size + 1 + 1))] 119)
  have hw2 := blk1 (w2.alloc (.cells #[.map (some (w.heap.size + 1 + 1))] 119)) (.cells #[.nilFunc] 139)
  have s5 : (w2.alloc (.cells #[.map (some (w.heap.size + 1 + 1))] 119)).heap.size = w2.heap.size + 1 := by simp
  rw [s5] at hw2
  have b4 := below2 w2 (.cells #[.map (some (w.heap.size + 1 + 1))] 119) (.cells #[.nilFunc] 139)
  have hs3 := blk_below (below1 (w2.alloc (.cells #[.map (some (w.heap.size + 1 + 1))] 119)) (.cells #[.nilFunc] 139)) hs2
  have ha4 := blk_below b4 ((e12 w.heap.size (by omega)).trans ha2)
  have hf4 := blk_below b4 ((e12 (w.heap.size + 1) (by omega)).trans hf2)
  have hm4 := hm2.same (b4.block _ hm2.lt)
  have hb4 : Below w.heap.size w ((w2.alloc (.cells #[.map (some (w.heap.size + 1 + 1))] 119)).alloc (.cells #[.nilFunc] 139)) :=
    ⟨b4.os.trans (hg2.os.trans (hg1.os.trans hb0.os)), b4.tape.trans (hg2.tape.trans (hg1.tape.trans hb0.tape)), b4.output.trans (hg2.output.trans (hg1.output.trans hb0.output)), by have := b4.size; omega,
      fun k hk => (b4.block k (by omega)).trans ((e12 k (by omega)).trans (hb0.block k hk))⟩
  generalize (w2.alloc (.cells #[.map (some (w.heap.size + 1 + 1))] 119)).alloc (.cells #[.nilFunc] 139) = W4 at *
  have st : ∀ k, k ≠ w2.heap.size + 1 → (W4.setCell ⟨w2.heap.size + 1, 0, none⟩ (.func (.func 87) #[] #[.pointer (some ⟨w2.heap.size, 0, none⟩), .pointer (some ⟨w.heap.size + 1, 0, none⟩), .pointer (some ⟨w2.heap.size + 1, 0, none⟩), .pointer (some ⟨w.heap.size, 0, none⟩)])).heap[k]? = W4.heap[k]? := fun k hk => Below.heap_setCell W4 ⟨w2.heap.size + 1, 0, none⟩ _ k hk
  have hsz : (W4.setCell ⟨w2.heap.size + 1, 0, none⟩ (.func (.func 87) #[] #[.pointer (some ⟨w2.heap.size, 0, none⟩), .pointer (some ⟨w.heap.size + 1, 0, none⟩), .pointer (some ⟨w2.heap.size + 1, 0, none⟩), .pointer (some ⟨w.heap.size, 0, none⟩)])).heap.size = W4.heap.size := by simp [World.setCell]
  have z4 := b4.size
  have lm := hm2.lt
  have hns : w2.heap.size ≠ w.heap.size + 1 + 1 := by omega
  have hbF : Below w.heap.size w (W4.setCell ⟨w2.heap.size + 1, 0, none⟩ (.func (.func 87) #[] #[.pointer (some ⟨w2.heap.size, 0, none⟩), .pointer (some ⟨w.heap.size + 1, 0, none⟩), .pointer (some ⟨w2.heap.size + 1, 0, none⟩), .pointer (some ⟨w.heap.size, 0, none⟩)])) := ⟨hb4.os, hb4.tape, hb4.output, by have := hb4.size; omega, fun k hk => (st k (by omega)).trans (hb4.block k hk)⟩
  have hcal := Calm.of_below (Fr := Fr) hbF
  obtain ⟨hSt, _⟩ := D.calm [] w _ hS hcal
  have lbs := lt_of_block hs3
  have lbw := lt_of_block hw2
  have fr := fun k h1 h2 => D.fresh [] w _ k hS hcal h1 h2
  refine ⟨hw2, (st _ (by omega)).trans hs3, (st _ (by omega)).trans hf4, set_at hw2, (st _ (by omega)).trans ha4, hm4.same (st _ (by omega)), by omega, ⟨fr _ (by omega) (by omega), fr _ (by omega) (by omega), fr _ (by omega) (by omega), fr _ (by omega) (by omega), fr _ (by omega) (by omega)⟩, hSt⟩
set_option maxRecDepth 100000 in
set_option maxHeartbeats 8000000 in
theorem below_any {fid : FuncId} {caps : Array Value} {B : Nat} {A : Blks} {V Mo : Nat} {N : List Nd} {H G : List Nat} {St : List Nat → World → Prop} {Fr : World → Nat → Prop} (D : DoOk fid caps B A V Mo N H G St Fr) {w : World} (f : Nat) (hf : f < N.length) (hS : St [] w) :
    Calls Tryz.prog 76 #[A.val, .int .i32 f, .func (.func fid) #[] caps] w fun e W' => e = .returned (.tuple #[]) ∧ St (bel N (f + 1) f []) W' := by
  have hk0 := key_i32 (a := 0) (by omega)
  have hk1 := key_i32 (a := 1) (by omega)
  have hmm := @run_makeMap Tryz.prog
  have hrs := @run_store_fn Tryz.prog
  have HS := Lib.hid hS
  have HD := Lib.hid D
  clear hS D
  unfold Blks.val
  have hM : MapAt Tryz.prog 21 (((w.alloc (.cells #[.pointer (some ⟨A.a, 0, none⟩)] 96)).alloc (.cells #[.func (.func fid) #[] caps] 139)).alloc (.map #[] 0)) (w.heap.size + 1 + 1) [] := by
    have := MapAt.made Tryz.prog 21 ((w.alloc (.cells #[.pointer (some ⟨A.a, 0, none⟩)] 96)).alloc (.cells #[.func (.func fid) #[] caps] 139))
    simpa using this
  go_enter Tryz.func76, Tryz.ntmps76
  go_upto_region 3 with (first
    | (refine wpList_mapIns rfl _ _ _ 119 4 rfl i32_keyed Tryz.underlying119 rfl hM (.int .i32 0) (.bool true) _ rfl rfl hk0 ?_; intro w1 hm1 hg1)
    | (refine wpList_mapIns rfl _ _ _ 119 4 rfl i32_keyed Tryz.underlying119 rfl hm1 (.int .i32 1) (.bool true) _ rfl rfl hk1 ?_; intro w2 hm2 hg2))
  obtain ⟨hbw, hst⟩ := BSt.start HD.out HS.out hg1 hm2 hg2
  have hcw := cell0 hbw
  have hfw := frozen_of_row _ _ 0 _ _ hbw
  have HST := Lib.hid hst
  clear hst hbw hm1 hg1 hm2 hg2 hM hk0 hk1 hmm
  generalize (w2.alloc (.cells #[.map (some (w.heap.size + 1 + 1))] 119)).alloc (.cells #[.nilFunc] 139) = W4 at *
  generalize w2.heap.size + 1 = bw at *
  generalize w2.heap.size = bs at *
  go_upto_region 4 with fail
  generalize W4.setCell ⟨bw, 0, none⟩ (.func (.func 87) #[] #[.pointer (some ⟨bs, 0, none⟩), .pointer (some ⟨w.heap.size + 1, 0, none⟩), .pointer (some ⟨bw, 0, none⟩), .pointer (some ⟨w.heap.size, 0, none⟩)]) = W5 at *
  have c5 := cell0 HST.out.k
  clear hcw hfw hrs
  go_wp2_with (refine (belowWalk_any HD.out (f + 1) f [] W5 (by omega) hf ⟨List.nodup_nil, by simp⟩ HST.out).mono ?_; rintro e W6 ⟨rfl, hg6⟩; have HG6 := Lib.hid hg6; clear hg6 HST c5)
  go_end0
  exact ⟨rfl, HG6.out.st⟩
end Go.Proofs.YthhcaoljejifeaaGreat

/-
  The arena's Size.
-/
namespace Go.Proofs.YthhcaoljejifeaaGreat
open Go Go.RowKit Go.ChangeMaps Go.MapKept Go.Maps Go.Lib Go.Sort

/-- The arena where only blocks of others turned. -/
theorem ArNv.calm {w w' : World} {B : Nat} {A : Blks} {V Mo : Nat} {N : List Nd} {H G : List Nat} {nv : Value} (h : ArNv w B A V Mo N H G nv) (hs : w.heap.size ≤ w'.heap.size) (hb : ∀ k, k < w.heap.size → ¬ Foreign A w k → w'.heap[k]? = w.heap[k]?) :
    ArNv w' B A V Mo N H G nv ∧ (∀ k, Foreign A w k → Foreign A w' k) ∧ ∀ k, w.heap.size ≤ k → k < w'.heap.size → Foreign A w' k := by
  obtain ⟨lb, hlb, hbo⟩ := h.by_
  obtain ⟨li, hli, hio⟩ := h.ites
  have own : ∀ k ∈ A.list, k < w.heap.size → w'.heap[k]? = w.heap[k]? := fun k hk hlt => hb k hlt (fun f => f.2.1 hk)
  have hin : ∀ k ∈ A.list, k < w.heap.size := by
    intro k hm
    have hm' : k = A.a ∨ k = A.b ∨ k = A.i ∨ k = A.g ∨ k = A.h := by simpa [Blks.list] using hm
    have := lt_of_block h.cells
    have := hlb.lt
    have := hli.lt
    have := h.given.lt
    have := h.held.lt
    omega
  have hc := (own A.a (by simp [Blks.list]) (lt_of_block h.cells)).trans h.cells
  have c2 : w'.cell? ⟨A.a, 2, none⟩ = some nv := by rw [cell_of_row w' _ 2 _ _ (0, 0) hc]; rfl
  refine ⟨⟨hc, owns_like h.row fun k hk => hb k (h.row.lt k hk).2 fun f => f.2.2 nv h.cell2 hk, ⟨lb, hlb.same (own A.b (by simp [Blks.list]) hlb.lt), hbo⟩, ⟨li, hli.same (own A.i (by simp [Blks.list]) hli.lt), hio⟩,
    h.given.same (own A.g (by simp [Blks.list]) h.given.lt), h.held.same (own A.h (by simp [Blks.list]) h.held.lt), h.nodup, h.base, h.off, h.wf, h.le⟩, fun k hk => ⟨Nat.lt_of_lt_of_le hk.1 hs, hk.2.1, fun u hu => ?_⟩, fun k hk1 hk2 => ⟨hk2, fun hm => by have := hin k hm; omega, fun u hu hh => ?_⟩⟩
  · rw [c2] at hu
    injection hu with hu
    subst hu
    exact hk.2.2 _ h.cell2
  · rw [c2] at hu
    injection hu with hu
    subst hu
    have := (h.row.lt k hh).2
    omega
/-- The count of what was met. -/
structure SizeSt (w0 : World) (B : Nat) (A : Blks) (V Mo : Nat) (N : List Nd) (H G : List Nat) (n0 : Nat) (F : List Nat) (W : World) : Prop where
  ar : ArAt W B A V Mo N H G
  n : W.heap[n0]? = some (.cells #[.int .i64 F.length] 3 (0, 0))
  fn : Foreign A W n0
  b : Below w0.heap.size w0 W
  ok : FOk N F
def SizeFr (w0 : World) (A : Blks) (n0 : Nat) (W : World) (k : Nat) : Prop := Foreign A W k ∧ k ≠ n0 ∧ w0.heap.size ≤ k
theorem SizeSt.calm {w0 : World} {B : Nat} {A : Blks} {V Mo : Nat} {N : List Nd} {H G : List Nat} {n0 : Nat} {F : List Nat} {W W' : World} (s : SizeSt w0 B A V Mo N H G n0 F W) (h : Calm (SizeFr w0 A n0) W W') :
    SizeSt w0 B A V Mo N H G n0 F W' ∧ (∀ k, SizeFr w0 A n0 W k → SizeFr w0 A n0 W' k) ∧ ∀ k, W.heap.size ≤ k → k < W'.heap.size → SizeFr w0 A n0 W' k := by
  obtain ⟨nv, hA⟩ := s.ar
  obtain ⟨a1, a2, a3⟩ := hA.calm h.size fun k hk hf => h.block k hk fun hh => hf hh.1
  have hb := s.b.size
  have ln := lt_of_block s.n
  refine ⟨⟨⟨nv, a1⟩, (h.block n0 ln (fun hh => hh.2.1 rfl)).trans s.n, a2 _ s.fn, ⟨h.os.trans s.b.os, h.tape.trans s.b.tape, h.output.trans s.b.output, Nat.le_trans hb h.size, fun k hk => (h.block k (by omega) (fun hh => by have := hh.2.2; omega)).trans (s.b.block k hk)⟩, s.ok⟩,
    fun k hk => ⟨a2 k hk.1, hk.2⟩, fun k h1 h2 => ⟨a3 k h1 h2, by omega, by omega⟩⟩
set_option maxHeartbeats 400000 in
theorem sizeEn (args : Array Value) (w : World) : (callFunc 77 args).run Tryz.prog w = .ok (.enter 77 args) w := by
  go_simp
set_option maxRecDepth 100000 in
set_option maxHeartbeats 400000 in
theorem sizeDo {w0 : World} {B : Nat} {A : Blks} {V Mo : Nat} {N : List Nd} {H G : List Nat} {n0 : Nat} (h0 : w0.heap.size ≤ n0) : DoOk 77 #[.pointer (some ⟨n0, 0, none⟩)] B A V Mo N H G (SizeSt w0 B A V Mo N H G n0) (SizeFr w0 A n0) where
  en := sizeEn
  ar := fun F W s => s.ar
  calm := fun F W W' s h => ⟨(s.calm h).1, (s.calm h).2.1⟩
  fresh := fun F W W' k s h h1 h2 => (s.calm h).2.2 k h1 h2
  step := by
    intro F f W h2 hf hF s
    have hle : N.length ≤ 2147483647 := by obtain ⟨_, h⟩ := s.ar; exact h.le
    have hl := s.ok.len
    have hlb : (F.length : Int) ≤ 2147483647 := by omega
    have c0 := cell0 s.n
    have fz := frozen_of_row W _ 0 _ _ s.n
    have HS := Lib.hid s
    have HX := Lib.hid (And.intro h2 (And.intro hf hF))
    clear s hl hle
    show Calls Tryz.prog 77 #[.int .i32 f, .pointer (some ⟨n0, 0, none⟩)] W _
    go_enter Tryz.func77, Tryz.ntmps77
    go_wp2
    go_end0
    have st : ∀ k, k ≠ n0 → (W.setCell ⟨n0, 0, none⟩ (.int .i64 ((F.length : Int) + 1))).heap[k]? = W.heap[k]? := fun k hk => Below.heap_setCell W ⟨n0, 0, none⟩ _ k hk
    have hsz : (W.setCell ⟨n0, 0, none⟩ (.int .i64 ((F.length : Int) + 1))).heap.size = W.heap.size := by simp [World.setCell]
    obtain ⟨nv, hA⟩ := HS.out.ar
    obtain ⟨a1, a2, a3⟩ := hA.calm (w' := W.setCell ⟨n0, 0, none⟩ (.int .i64 ((F.length : Int) + 1))) (by omega) fun k hk hf => st k fun e => hf (e ▸ HS.out.fn)
    refine ⟨rfl, ⟨⟨nv, a1⟩, ?_, a2 _ HS.out.fn, ⟨HS.out.b.os, HS.out.b.tape, HS.out.b.output, by have := HS.out.b.size; omega, fun k hk => (st k (by omega)).trans (HS.out.b.block k hk)⟩, HS.out.ok.snoc HX.out.1 HX.out.2.1 HX.out.2.2⟩, by omega, fun k hk => ⟨st k hk.2.1, a2 k hk.1, hk.2⟩⟩
    rw [List.length_append]
    exact set_at HS.out.n
set_option maxRecDepth 100000 in
set_option maxHeartbeats 400000 in
theorem Size_any {w : World} {B : Nat} {A : Blks} {V Mo : Nat} {N : List Nd} {H G : List Nat} (f : Nat) (hA : ArAt w B A V Mo N H G) (hf : f ∈ G ∧ f < N.length) :
    Calls Tryz.prog 64 #[A.val, .int .i64 f] w fun e w' => e = .returned (.tuple #[.int .i64 (bel N (f + 1) f []).length, .int .i64 0]) ∧ Below w.heap.size w w' := by
  generalize hF : bel N (f + 1) f [] = F
  have hle : N.length ≤ 2147483647 := by obtain ⟨_, h⟩ := hA; exact h.le
  have hb1 := below1 w (.cells ([f].map fun (n : Nat) => Value.int .i64 (n : Int)).toArray 3)
  have hA1 := hA.below hb1
  have hck := check_any hA1 [f] w.heap.size 1 (new_cells w [f] 3) (by
    intro x hx
    simp at hx
    subst hx
    exact ⟨hf.1, by omega⟩) (by simp)
  have HA1 := Lib.hid hA1
  have HB1 := Lib.hid hb1
  have hck : Calls Tryz.prog 50 #[A.val, .slice (some ⟨w.heap.size, 0, none⟩) 1 1] (w.alloc (.cells #[.int .i64 f] 3)) fun e w' => e = .returned (.int .i64 0) ∧ Below (w.alloc (.cells #[.int .i64 f] 3)).heap.size (w.alloc (.cells #[.int .i64 f] 3)) w' := hck
  have HCK := Lib.hid hck
  have HA := Lib.hid hA
  have f1 := hf.2
  have f2 : (f : Int) ≤ 2147483646 := by omega
  have HF := Lib.hid hF
  clear hA hA1 hb1 hck hf hF
  unfold Blks.val at *
  go_enter Tryz.func64, Tryz.ntmps64
  go_upto_region 5 with ((with_reducible refine HCK.out.mono ?_); rintro e W2 ⟨rfl, hb2⟩; have HB2 := Lib.hid (HB1.out.trans (hb2.mono HB1.out.size)); clear hb2)
  have hb3 := HB2.out.alloc HB2.out.size (.cells #[.int .i64 0] 3)
  have kn := blk1 W2 (.cells #[.int .i64 0] 3)
  have hA3 := HA.out.below hb3
  have hst : SizeSt w B A V Mo N H G W2.heap.size [] (W2.alloc (.cells #[.int .i64 0] 3)) := ⟨hA3, kn, HA.out.foreign_new hb3 HB2.out.size (lt_of_block kn), hb3, ⟨List.nodup_nil, by simp⟩⟩
  have hbl := below_any (sizeDo HB2.out.size) f f1 hst
  rw [HF.out] at hbl
  unfold Blks.val at hbl
  have HBL := Lib.hid hbl
  clear hbl hst kn hb3 hA3 HA HA1 HB1 HCK
  generalize W2.alloc (.cells #[.int .i64 0] 3) = W3 at *
  go_upto_region 6 with ((with_reducible refine HBL.out.mono ?_); rintro e W4 ⟨rfl, hs4⟩; have HS4 := Lib.hid hs4; clear hs4)
  have cn := cell0 HS4.out.n
  have HB4 := Lib.hid HS4.out.b
  clear HS4 HF
  go_wp2
  go_ret2
  exact ⟨rfl, HB4.out⟩
end Go.Proofs.YthhcaoljejifeaaGreat

/-
  The arena's Support: what is done at a node.
-/
namespace Go.Proofs.YthhcaoljejifeaaGreat
open Go Go.RowKit Go.ChangeMaps Go.MapKept Go.Maps Go.Lib Go.Sort

def supL (N : List Nd) (F : List Nat) : List Value := F.map fun (i : Nat) => Value.int .i64 ((nd N i).v : Int)
/-- The variables of what was met. -/
structure SupSt (w0 : World) (B : Nat) (A : Blks) (V Mo : Nat) (N : List Nd) (H G : List Nat) (ob ab : Nat) (F : List Nat) (W : World) : Prop where
  ar : ArAt W B A V Mo N H G
  o : ∃ fv, W.heap[ob]? = some (.cells #[fv] 37 (0, 0)) ∧ W.ownsRow w0.heap.size 3 1 fv F.length (supL N F) ∧ fv.ownBlock ≠ some ob ∧ fv.ownBlock ≠ some ab ∧ ∀ g, fv.ownBlock = some g → Foreign A W g
  a : W.heap[ab]? = some (.cells #[.pointer (some ⟨A.a, 0, none⟩)] 96 (0, 0))
  fo : Foreign A W ob ∧ Foreign A W ab ∧ ob ≠ ab ∧ w0.heap.size ≤ ob ∧ w0.heap.size ≤ ab
  b : Below w0.heap.size w0 W
  ok : FOk N F
def SupFr (w0 : World) (A : Blks) (ob ab : Nat) (W : World) (k : Nat) : Prop := Foreign A W k ∧ k ≠ ob ∧ k ≠ ab ∧ w0.heap.size ≤ k ∧ ∀ fv, W.cell? ⟨ob, 0, none⟩ = some fv → fv.ownBlock ≠ some k
theorem SupSt.calm {w0 : World} {B : Nat} {A : Blks} {V Mo : Nat} {N : List Nd} {H G : List Nat} {ob ab : Nat} {F : List Nat} {W W' : World} (s : SupSt w0 B A V Mo N H G ob ab F W) (h : Calm (SupFr w0 A ob ab) W W') :
    SupSt w0 B A V Mo N H G ob ab F W' ∧ (∀ k, SupFr w0 A ob ab W k → SupFr w0 A ob ab W' k) ∧ ∀ k, W.heap.size ≤ k → k < W'.heap.size → SupFr w0 A ob ab W' k := by
  obtain ⟨nv, hA⟩ := s.ar
  obtain ⟨a1, a2, a3⟩ := hA.calm h.size fun k hk hf => h.block k hk fun hh => hf hh.1
  obtain ⟨fv, o1, o2, o3, o4, o5⟩ := s.o
  obtain ⟨f1, f2, f3, f4, f5⟩ := s.fo
  have hb := s.b.size
  have lo := lt_of_block o1
  have la := lt_of_block s.a
  have hc := cell0 o1
  have k1 := (h.block ob lo (fun hh => hh.2.1 rfl)).trans o1
  have hc' := cell0 k1
  have k2 : ∀ g, fv.ownBlock = some g → W'.heap[g]? = W.heap[g]? := fun g hg => h.block g (o2.lt g hg).2 fun hh => hh.2.2.2.2 fv hc hg
  refine ⟨⟨⟨nv, a1⟩, ⟨fv, k1, owns_like o2 k2, o3, o4, fun g hg => a2 g (o5 g hg)⟩, (h.block ab la (fun hh => hh.2.2.1 rfl)).trans s.a, ⟨a2 _ f1, a2 _ f2, f3, f4, f5⟩, ⟨h.os.trans s.b.os, h.tape.trans s.b.tape, h.output.trans s.b.output, Nat.le_trans hb h.size, fun k hk => (h.block k (by omega) (fun hh => by have := hh.2.2.2.1; omega)).trans (s.b.block k hk)⟩, s.ok⟩,
    fun k hk => ⟨a2 k hk.1, hk.2.1, hk.2.2.1, hk.2.2.2.1, fun u hu => ?_⟩, fun k h1 h2 => ⟨a3 k h1 h2, by omega, by omega, by omega, fun u hu hh => ?_⟩⟩
  · rw [hc'] at hu
    injection hu with hu
    subst hu
    exact hk.2.2.2.2 _ hc
  · rw [hc'] at hu
    injection hu with hu
    subst hu
    have := (o2.lt k hh).2
    omega
theorem Tryz.infoInt : (Tryz.prog.info? 3).map (fun i => (i.zero, i.size, i.bytes)) = some (some (.int .i64 0), 1, 8) := by kernel_rfl
theorem one_i64 (x : Int) : ∀ u ∈ [Value.int .i64 x], u.oneCell' = true := by
  intro u hu
  simp at hu
  subst hu
  rfl
/-- The state behind one node more. -/
theorem SupSt.pushed {w0 : World} {B : Nat} {A : Blks} {V Mo : Nat} {N : List Nd} {H G : List Nat} {ob ab : Nat} {F : List Nat} {W w5 : World} (s : SupSt w0 B A V Mo N H G ob ab F W) {f : Nat} (h2 : 2 ≤ f) (hf : f < N.length) (hF : f ∉ F) {fv v5 : Value}
    (o1 : W.heap[ob]? = some (.cells #[fv] 37 (0, 0))) (o2 : W.ownsRow w0.heap.size 3 1 fv F.length (supL N F)) (o3 : fv.ownBlock ≠ some ob) (o4 : fv.ownBlock ≠ some ab) (o5 : ∀ g, fv.ownBlock = some g → Foreign A W g)
    (hown : w5.ownsRow w0.heap.size 3 1 v5 (F.length + 1) (supL N F ++ [.int .i64 (nd N f).v])) (hg : W.grownBy w5 fv.ownBlock) (hm : Moved fv v5 W.heap.size) :
    (w5.heap[ob]? = some (.cells #[fv] 37 (0, 0))) ∧ SupSt w0 B A V Mo N H G ob ab (F ++ [f]) (w5.setCell ⟨ob, 0, none⟩ v5) ∧ W.heap.size ≤ (w5.setCell ⟨ob, 0, none⟩ v5).heap.size ∧
      ∀ k, SupFr w0 A ob ab W k → (w5.setCell ⟨ob, 0, none⟩ v5).heap[k]? = W.heap[k]? ∧ SupFr w0 A ob ab (w5.setCell ⟨ob, 0, none⟩ v5) k := by
  obtain ⟨nv, hA⟩ := s.ar
  obtain ⟨f1, f2, f3, f4, f5⟩ := s.fo
  have lo := lt_of_block o1
  have la := lt_of_block s.a
  have hb := s.b.size
  have hs5 := hg.size
  have hsz : (w5.setCell ⟨ob, 0, none⟩ v5).heap.size = w5.heap.size := by simp [World.setCell]
  have t5 : ∀ k, k < W.heap.size → fv.ownBlock ≠ some k → w5.heap[k]? = W.heap[k]? := fun k hk hn => hg.block k hk (fun e => hn e.symm)
  have t6 : ∀ k, k < W.heap.size → k ≠ ob → fv.ownBlock ≠ some k → (w5.setCell ⟨ob, 0, none⟩ v5).heap[k]? = W.heap[k]? := fun k hk hn hn2 => (Below.heap_setCell w5 ⟨ob, 0, none⟩ v5 k hn).trans (t5 k hk hn2)
  have off : ∀ k, k < W.heap.size → fv.ownBlock ≠ some k → v5.ownBlock ≠ some k := fun k hk hn e => by
    rcases hm with h | h
    · rw [h] at e; exact hn e
    · have := h k e; omega
  have c5 := (t5 ob lo o3).trans o1
  obtain ⟨a1, a2, a3⟩ := hA.calm (w' := w5.setCell ⟨ob, 0, none⟩ v5) (by omega) fun k hk hf => t6 k hk (fun e => hf (e ▸ f1)) (fun e => hf (o5 k e))
  have k6 : (w5.setCell ⟨ob, 0, none⟩ v5).heap[ob]? = some (.cells #[v5] 37 (0, 0)) := set_at c5
  refine ⟨c5, ⟨⟨nv, a1⟩, ⟨v5, k6, ?_, off ob lo o3, off ab la o4, fun g hg5 => ?_⟩, (t6 ab la (fun e => f3 e.symm) o4).trans s.a, ⟨a2 _ f1, a2 _ f2, f3, f4, f5⟩, ⟨hg.os.trans s.b.os, hg.tape.trans s.b.tape, hg.output.trans s.b.output, by omega, fun k hk => (t6 k (by omega) (by omega) (fun e => by have := (o2.lt k e).1; omega)).trans (s.b.block k hk)⟩, s.ok.snoc h2 hf hF⟩, by omega, fun k hk => ?_⟩
  · rw [List.length_append, supL, List.map_append]
    exact owns_like hown fun k hk => Below.heap_setCell w5 ⟨ob, 0, none⟩ v5 k (fun e => off ob lo o3 (by rw [hk, e]))
  · rcases hm with h | h
    · exact a2 g (o5 g (by rw [← h]; exact hg5))
    · exact a3 g (h g hg5) (by have := (hown.lt g hg5).2; omega)
  · obtain ⟨p1, p2, p3, p4, p5⟩ := hk
    have hkW := p1.1
    have hko := p5 fv (cell0 o1)
    refine ⟨t6 k hkW p2 hko, a2 k p1, p2, p3, p4, fun u hu => ?_⟩
    rw [cell0 k6] at hu
    injection hu with hu
    subst hu
    exact off k hkW hko
/-- An append of one, the row nil or laid, as one step of a region that draws its order. -/
theorem step_append_any {P : Program} {ops : Array Oper} {o : Oper} {a : Act} {K : Act → World → Prop} {Q : Exit → Act → World → Prop} {E : Prop}
    (hg : o.guard = none) (s x : Operand) (t : TypeId) (hop : o.op = Op.call { callee := Callee.builtin Builtin.append, args := #[s, x], argTypes := #[t, t] })
    {w0 : World} (e : TypeId) (i : TypeInfo) (z : Value) (size bytes : Nat) (ht : P.underlying t = some (.slice e)) (hi : P.info? e = some i) (hz : i.zero = some z)
    (hsize : i.size = size) (hby : i.bytes = bytes) (hzs : z.cells.size = size) (hsz : 0 < size) (hb64 : bytes ≤ 64)
    {base n : Nat} {v : Value} {xs : List Value} (hown : w0.ownsRow base e size v n xs) (es : List Value) (hes : es.length = size) (h1 : ∀ u ∈ es, u.oneCell' = true) (hn : n ≤ 1099511627776) (hbase : base ≤ w0.heap.size)
    (hs : a.eval s = v) (hx : a.eval x = .slice (some ⟨w0.heap.size, 0, none⟩) 1 1)
    (hK : ∀ v' w', w'.ownsRow base e size v' (n + 1) (xs ++ es) → w0.grownBy w' v.ownBlock → Moved v v' w0.heap.size → K (a.put o.dst v') w') :
    if Region.wanted o (yielded ops a.tmps) = true then Oper.wp P o a (w0.alloc (.cells es.toArray e)) K Q else E := by
  rcases hown.2 with ⟨rfl, rfl⟩ | ⟨g, cap, cur, rfl, _⟩
  · have hw : Region.wanted o (yielded ops a.tmps) = true := by simp [Region.wanted, hg]
    rw [if_pos hw]
    obtain rfl : xs = [] := List.eq_nil_of_length_eq_zero (by have := hown.1; omega)
    have hgA : w0.grownBy (w0.alloc (.cells es.toArray e)) none := World.grownBy_alloc w0 _ none
    obtain ⟨v', w', hrun, r1, r2, _⟩ := run_append_own (P := P) (w0.alloc (.cells es.toArray e)) (w0.alloc (.cells es.toArray e)).heap.size t o.type e i z size bytes ht hi hz hsize hby hzs hsz (.slice none 0 0) 0 [] (World.ownsRow_nil _ _ e size) ⟨w0.heap.size, 0, none⟩ 1 1 es (by omega) (cells_new w0 es e) h1 (by unfold maxLen; omega) (by omega) (Nat.le_refl _)
    unfold Oper.wp
    simp [execOp, hop, resolve, invoke, builtin, hs, hx, hrun, Result.andThen]
    refine hK v' w' (owns_base r1 (by simp; omega)) (grown_none (hgA.trans r2) _) (.inr fun g hg' => ?_)
    have := (r1.lt g hg').1
    simp at this; omega
  · exact step_append_moved hg s x t hop e i z size bytes ht hi hz hsize hby hzs hsz hb64 hown es hes h1 hn hbase hs hx hK
set_option maxRecDepth 100000 in
set_option maxHeartbeats 1000000 in
theorem supStep {w0 : World} {B : Nat} {A : Blks} {V Mo : Nat} {N : List Nd} {H G : List Nat} {ob ab : Nat} (F : List Nat) (f : Nat) (W : World) (h2 : 2 ≤ f) (hf : f < N.length) (hF : f ∉ F) (s : SupSt w0 B A V Mo N H G ob ab F W) :
    Calls Tryz.prog 78 #[.int .i32 f, .pointer (some ⟨ob, 0, none⟩), .pointer (some ⟨ab, 0, none⟩)] W fun e W' => e = .returned (.tuple #[]) ∧ SupSt w0 B A V Mo N H G ob ab (F ++ [f]) W' ∧ W.heap.size ≤ W'.heap.size ∧
      ∀ k, SupFr w0 A ob ab W k → W'.heap[k]? = W.heap[k]? ∧ SupFr w0 A ob ab W' k := by
  have hwd : Below W.heap.size W W.drew := ⟨rfl, rfl, rfl, Nat.le_refl _, fun _ _ => rfl⟩
  obtain ⟨sd, fd, _⟩ := s.calm (.of_below hwd)
  obtain ⟨nv, hA⟩ := s.ar
  have hle := hA.le
  have hl := s.ok.len
  obtain ⟨g, cp, rfl, hat⟩ := hA.at_node
  obtain ⟨x0, _, _⟩ := hat f hf
  have c2 : W.cell? ⟨A.a, 2, none⟩ = some (.slice (some ⟨g, 0, none⟩) N.length cp) := hA.cellAt rfl
  have hv := hA.wf.v256 f
  have hv2 : ((nd N f).v : Int) ≤ 256 := by omega
  have hwr : IntKind.i64.wrap ((nd N f).v : Int) = ((nd N f).v : Int) := IntWalk.i64_in _ (by omega)
  have ca := cell0 s.a
  obtain ⟨fv, o1, o2, o3, o4, o5⟩ := s.o
  obtain ⟨Af, cf, rfl, _⟩ := owns_form o2
  have co := cell0 o1
  obtain ⟨i0, hif, hz0, hz1, hz2⟩ := info_parts Tryz.infoInt
  have lob := lt_of_block o1
  have lab := lt_of_block s.a
  have lA := lt_of_block hA.cells
  have lg : g < W.heap.size := (hA.row.lt g rfl).2
  have co' : ∀ o, (W.alloc o).cell? ⟨ob, 0, none⟩ = some (.slice Af F.length cf) := fun o => ((below1 W o).cell (p := ⟨ob, 0, none⟩) lob).trans co
  have ca' : ∀ o, (W.alloc o).cell? ⟨ab, 0, none⟩ = some (.pointer (some ⟨A.a, 0, none⟩)) := fun o => ((below1 W o).cell (p := ⟨ab, 0, none⟩) lab).trans ca
  have c2' : ∀ o, (W.alloc o).cell? ⟨A.a, 2, none⟩ = some (.slice (some ⟨g, 0, none⟩) N.length cp) := fun o => ((below1 W o).cell (p := ⟨A.a, 2, none⟩) lA).trans c2
  have x0' : ∀ o, (W.alloc o).cell? ⟨g, f * 3, none⟩ = some (.int .i32 (nd N f).v) := fun o => ((below1 W o).cell (p := ⟨g, f * 3, none⟩) lg).trans x0
  have hI : (f : Int) < (N.length : Int) := by omega
  have hl4 : F.length ≤ 1099511627776 := by omega
  have hb := s.b.size
  have HP := Lib.hid (fun (v5 : Value) (w5 : World) => sd.pushed (w5 := w5) (v5 := v5) h2 hf hF o1 (owns_kept_none o2 (only_of_below hwd none)) o3 o4 (fun g hg => ((Kept.of_below (lt_of_block hA.cells) hwd).same _ (o5 g hg)).2))
  have HOW := Lib.hid (owns_kept_none o2 (only_of_below hwd none))
  have hbs : w0.heap.size ≤ W.drew.heap.size := hb
  clear s sd fd hA hat o1 o2 o3 o4 o5 hle hl hwd
  go_enter Tryz.func78, Tryz.ntmps78
  go_region_law ((
    refine step_append_any rfl (.tmp 4) (.tmp 14) 37 rfl 3 i0 _ 1 8 Tryz.underlying37 hif hz0 hz1 hz2 rfl (by decide) (by decide) (w0 := W.drew) HOW.out [.int .i64 (nd N f).v] rfl (one_i64 _) hl4 hbs rfl rfl ?_
    intro v5 w5 hown5 hgr5 hmv5
    obtain ⟨p1, p2, p3, p4⟩ := HP.out v5 w5 hown5 hgr5 hmv5
    obtain ⟨Ax, cx, hv5, _⟩ := owns_form hown5
    subst hv5
    have hc5 := cell0 p1
    have hf5 := frozen_of_row w5 _ 0 _ _ p1
    have P2 := Lib.hid p2
    have P3 := Lib.hid p3
    have P4 := Lib.hid p4
    clear hown5 hgr5 hmv5 p1 p2 p3 p4))
  all_goals (try go_wp2)
  all_goals go_end0
  all_goals exact ⟨rfl, P2.out, P3.out, P4.out⟩
theorem supEn (args : Array Value) (w : World) : (callFunc 78 args).run Tryz.prog w = .ok (.enter 78 args) w := by
  go_simp
theorem supDo {w0 : World} {B : Nat} {A : Blks} {V Mo : Nat} {N : List Nd} {H G : List Nat} {ob ab : Nat} : DoOk 78 #[.pointer (some ⟨ob, 0, none⟩), .pointer (some ⟨ab, 0, none⟩)] B A V Mo N H G (SupSt w0 B A V Mo N H G ob ab) (SupFr w0 A ob ab) where
  en := supEn
  ar := fun _ _ s => s.ar
  calm := fun _ _ _ s h => ⟨(s.calm h).1, (s.calm h).2.1⟩
  fresh := fun _ _ _ k s h h1 h2 => (s.calm h).2.2 k h1 h2
  step := fun F f W h2 hf hF s => supStep F f W h2 hf hF s
end Go.Proofs.YthhcaoljejifeaaGreat

/-
  The arena's refusals, and its Support.
-/
namespace Go.Proofs.YthhcaoljejifeaaGreat
open Go Go.RowKit Go.ChangeMaps Go.MapKept Go.Maps Go.Lib Go.Sort

theorem givenL_no (G : List Nat) (x : Int) (h : ∀ g ∈ G, x ≠ (g : Int)) : getM (givenL G) (.int .i64 x) = none := by
  refine getM_none fun p hp e => ?_
  unfold givenL at hp
  obtain ⟨g, hg, rfl⟩ := List.mem_map.1 hp
  simp at e
  exact h g hg e.symm
set_option maxRecDepth 100000 in
set_option maxHeartbeats 4000000 in
/-- A number that was not given is refused. -/
theorem check_no {w : World} {B : Nat} {A : Blks} {V Mo : Nat} {N : List Nd} {H G : List Nat} (hA : ArAt w B A V Mo N H G) (x : Int) (g c : Nat) (hv : w.cell? ⟨g, 0, none⟩ = some (.int .i64 x)) (hx : -9223372036854775808 ≤ x ∧ x ≤ 9223372036854775807)
    (hG : ∀ g ∈ G, x ≠ (g : Int)) :
    Calls Tryz.prog 50 #[A.val, .slice (some ⟨g, 0, none⟩) 1 c] w fun e w' => e = .returned (.int .i64 1) ∧ Below w.heap.size w w' := by
  obtain ⟨nv, hN⟩ := hA
  have a5 : w.cell? ⟨A.a, 5, none⟩ = some (.map (some A.g)) := hN.cellAt rfl
  have hlook : (Instr.lookup 118 (.map (some A.g)) (.int .i64 x) false).run Tryz.prog w = .ok (.bool false) w := by
    have h1 := hN.given.look i64_keyed Tryz.underlying118 (zero_bool w) false (key_i64 hx)
    rw [givenL_no G x hG] at h1
    exact h1
  clear hN hG hx
  unfold Blks.val
  go_enter Tryz.func50, Tryz.ntmps50
  go_wp2
  go_loop [11] (fun i => i = .int .i64 0) (fun _ => 0)
  case atStart => rfl
  case round =>
    obtain rfl := hrel
    go_wp2
    go_ret
    exact ⟨rfl, Below.refl _ _⟩
set_option maxRecDepth 100000 in
set_option maxHeartbeats 400000 in
theorem Size_no {w : World} {B : Nat} {A : Blks} {V Mo : Nat} {N : List Nd} {H G : List Nat} (x : Int) (hA : ArAt w B A V Mo N H G) (hx : -9223372036854775808 ≤ x ∧ x ≤ 9223372036854775807) (hG : ∀ g ∈ G, x ≠ (g : Int)) :
    Calls Tryz.prog 64 #[A.val, .int .i64 x] w fun e w' => e = .returned (.tuple #[.int .i64 0, .int .i64 1]) ∧ Below w.heap.size w w' := by
  have hb1 := below1 w (.cells #[.int .i64 x] 3)
  have hck := check_no (hA.below hb1) x w.heap.size 1 (by rw [cell_of_row _ _ 0 _ _ (0, 0) (blk1 w (.cells #[.int .i64 x] 3))]; rfl) hx hG
  have HB1 := Lib.hid hb1
  have HCK := Lib.hid hck
  clear hA hb1 hck hx hG
  unfold Blks.val at *
  go_enter Tryz.func64, Tryz.ntmps64
  go_wp2_with ((with_reducible refine HCK.out.mono ?_); rintro e W2 ⟨rfl, hb2⟩; have HB2 := Lib.hid (HB1.out.trans (hb2.mono HB1.out.size)); clear hb2)
  go_ret2
  exact ⟨rfl, HB2.out⟩
set_option maxRecDepth 100000 in
set_option maxHeartbeats 400000 in
theorem Support_no {w : World} {B : Nat} {A : Blks} {V Mo : Nat} {N : List Nd} {H G : List Nat} (x : Int) (hA : ArAt w B A V Mo N H G) (hx : -9223372036854775808 ≤ x ∧ x ≤ 9223372036854775807) (hG : ∀ g ∈ G, x ≠ (g : Int)) :
    Calls Tryz.prog 65 #[A.val, .int .i64 x] w fun e w' => e = .returned (.tuple #[.slice none 0 0, .int .i64 1]) ∧ Below w.heap.size w w' := by
  have hb0 := below1 w (.cells #[.pointer (some ⟨A.a, 0, none⟩)] 96)
  have hA0 := hA.below hb0
  have hk0 := cell0 (blk1 w (.cells #[.pointer (some ⟨A.a, 0, none⟩)] 96))
  have hs0 : (w.alloc (.cells #[.pointer (some ⟨A.a, 0, none⟩)] 96)).heap.size = w.heap.size + 1 := by simp
  have hb1 := hb0.alloc hb0.size (.cells #[.int .i64 x] 3)
  have hck := check_no (hA.below hb1) x (w.heap.size + 1) 1 (by
    have := blk1 (w.alloc (.cells #[.pointer (some ⟨A.a, 0, none⟩)] 96)) (.cells #[.int .i64 x] 3)
    rw [hs0] at this
    exact cell0 this) hx hG
  have HB1 := Lib.hid hb1
  have HCK := Lib.hid hck
  clear hA hb1 hck hx hG hA0 hb0 hs0
  unfold Blks.val at *
  go_enter Tryz.func65, Tryz.ntmps65
  go_wp2_with ((with_reducible refine HCK.out.mono ?_); rintro e W2 ⟨rfl, hb2⟩; have HB2 := Lib.hid (HB1.out.trans (hb2.mono HB1.out.size)); clear hb2)
  go_ret2
  exact ⟨rfl, HB2.out⟩
end Go.Proofs.YthhcaoljejifeaaGreat

/-
  slices.Sort and slices.Compact at a row of the call's own, whole numbers.
-/
namespace Go.Proofs.YthhcaoljejifeaaGreat
open Go Go.RowKit Go.Sort

def icells (L : List Int) : List Value := L.map (Value.int .i64)
theorem icells_len (L : List Int) : (icells L).length = L.length := by simp [icells]
theorem icell {L : List Int} {k : Nat} {x : Int} (h : L[k]? = some x) : (icells L)[k]? = some (.int .i64 x) := by simp [icells, h]
theorem put_take {n k : Nat} {d' : Array Int} {cur : Array Value} {c : Nat} (hd : d'.size = n) (hk : k ≤ n) (hnc : n ≤ c) (hcs : cur.size = c * 1) : (putCells (Value.int .i64) 0 d' cur).toList.take (k * 1) = icells (d'.toList.take k) := by
  apply List.ext_getElem?
  intro j
  by_cases hj : j < k * 1
  · rw [List.getElem?_take_of_lt hj, Array.getElem?_toList]
    have hjc : j < cur.size := by rw [hcs]; omega
    have hjd : j < d'.size := by omega
    simp only [putCells, Array.getElem?_mapIdx, Array.getElem?_eq_getElem hjc, Option.map_some, icells, List.getElem?_map]
    rw [if_pos (by omega), Nat.sub_zero, getElem!_pos d' j hjd, List.getElem?_take_of_lt (by omega), Array.getElem?_toList, Array.getElem?_eq_getElem hjd]
    rfl
  · have hsz : (putCells (Value.int .i64) 0 d' cur).size = cur.size := by simp [putCells]
    rw [List.getElem?_eq_none (by simp [hsz, hcs]; omega), List.getElem?_eq_none (by rw [icells_len]; simp [hd]; omega)]
/-- The row behind such a call is the call's own still; nothing else has turned. -/
theorem owns_put {w w' : World} {base g n c k : Nat} {L : List Int} {d' : Array Int} (hown : w.ownsRow base 3 1 (.slice (some ⟨g, 0, none⟩) n c) n (icells L)) (hd : d'.size = n) (hk : k ≤ n) (hat : At (Value.int .i64) w g 0 d' w') :
    w'.ownsRow base 3 1 (.slice (some ⟨g, 0, none⟩) k c) k (icells (d'.toList.take k)) ∧ w.grownBy w' (some g) := by
  obtain ⟨cur, hg, hnc, hcm, hcs, ht, hbg⟩ := owns_block hown
  obtain ⟨m, os, rfl⟩ := hat
  have hlt := lt_of_block hg
  have hg2 : (grow (putRow (Value.int .i64) (Sort.ahead w m) g 0 d') os).heap[g]? = some (.cells (putCells (Value.int .i64) 0 d' cur) 3 (0, 0)) := by
    simp only [grow, putRow, mapBlock]
    rw [Array.getElem?_append_left (by simp [Sort.ahead]; omega), Array.getElem?_modify, if_pos rfl]
    show Option.map _ w.heap[g]? = _
    rw [hg]
    rfl
  have hsz : (putCells (Value.int .i64) 0 d' cur).size = cur.size := by simp [putCells]
  refine ⟨owns_of_block hg2 (by omega) hcm (by rw [hsz, hcs]) (put_take hd hk hnc hcs) (by rw [icells_len]; simp [hd]; omega) hbg, ⟨rfl, rfl, rfl, ?_, fun i hi hne => ?_⟩⟩
  · simp [grow, putRow, mapBlock, Sort.ahead]
  · simp only [grow, putRow, mapBlock]
    rw [Array.getElem?_append_left (by simp [Sort.ahead]; omega), Array.getElem?_modify, if_neg (fun e => hne (by rw [e]))]
    rfl
theorem holds_row {w : World} {base g c : Nat} {L : List Int} (hown : w.ownsRow base 3 1 (.slice (some ⟨g, 0, none⟩) L.length c) L.length (icells L)) : Holds (Value.int .i64) w g 0 L.toArray := fun j hj => by
  have hj' : j < L.length := by simpa using hj
  refine ⟨?_, hown.frozenAt j |> fun h => by simpa using h⟩
  have := hown.cellAt j (by omega)
  rw [Nat.zero_add, this, icell (List.getElem?_eq_getElem hj')]
  simp [hj']
theorem mem_upTo (d : Array Int) : ∀ m, m ≤ d.size → ∀ x, x ∈ Lib.compactUpTo d m ↔ ∃ j, j < m ∧ d[j]! = x
  | 0, _, x => by simp [Lib.compactUpTo]
  | m + 1, hm, x => by
    rw [Lib.compactUpTo_succ, List.mem_append, mem_upTo d m (by omega)]
    constructor
    · rintro (⟨j, h1, h2⟩ | h)
      · exact ⟨j, by omega, h2⟩
      · split at h
        · exact ⟨m, by omega, (List.mem_singleton.1 h).symm⟩
        · cases h
    · rintro ⟨j, h1, h2⟩
      by_cases hj : j < m
      · exact .inl ⟨j, hj, h2⟩
      · obtain rfl : j = m := by omega
        by_cases hk : Lib.keeps d j = true
        · right; rw [if_pos hk, h2]; simp
        · left
          have : ¬ (j = 0 ∨ d[j]! ≠ d[j - 1]!) := by simpa [Lib.keeps] using hk
          have h0 : j ≠ 0 := fun h => this (.inl h)
          have he : d[j]! = d[j - 1]! := Decidable.not_not.1 fun h => this (.inr h)
          exact ⟨j - 1, by omega, by rw [← he, h2]⟩
theorem mem_compact (zs : List Int) (x : Int) : x ∈ Lib.compact zs ↔ x ∈ zs := by
  unfold Lib.compact
  rw [mem_upTo _ _ (by simp)]
  constructor
  · rintro ⟨j, h1, rfl⟩
    simp [h1]
  · intro h
    obtain ⟨j, hj, rfl⟩ := List.getElem_of_mem h
    exact ⟨j, hj, by simp [hj]⟩
theorem sortI_row (L : List Int) (v : Value) (base : Nat) (w : World) (hown : w.ownsRow base 3 1 v L.length (icells L)) (hlen : L.length < 4611686018427387904) :
    Calls Tryz.prog 79 #[v] w fun e w' => e = .returned (.tuple #[]) ∧ ∃ L' : List Int, (∀ x, x ∈ L' ↔ x ∈ L) ∧ L'.length = L.length ∧ w'.ownsRow base 3 1 v L'.length (icells L') ∧ w.grownBy w' v.ownBlock := by
  obtain ⟨A, c, rfl, hA⟩ := owns_form hown
  rcases Nat.eq_zero_or_pos L.length with h0 | h0
  · obtain rfl : L = [] := List.eq_nil_of_length_eq_zero h0
    refine (Tryz.slices_Sort_int_none A c w).mono ?_
    rintro e w' ⟨rfl, rfl⟩
    exact ⟨rfl, [], fun x => Iff.rfl, rfl, hown, World.grownBy.refl _ _⟩
  · obtain ⟨g, rfl⟩ := hA h0
    have hlt := (hown.lt g rfl).2
    refine (Tryz.slices_Sort_int g 0 c L w (holds_row hown) hlt hlen).mono ?_
    rintro e w' ⟨rfl, hat⟩
    have hsz : (L.mergeSort fun x y => decide (x ≤ y)).length = L.length := List.length_mergeSort _
    obtain ⟨h1, h2⟩ := owns_put hown (by simp) (Nat.le_refl _) hat
    refine ⟨rfl, L.mergeSort fun x y => decide (x ≤ y), fun x => List.mem_mergeSort, hsz, ?_, h2⟩
    rw [hsz]
    have e : (L.mergeSort fun x y => decide (x ≤ y)).toArray.toList.take L.length = L.mergeSort fun x y => decide (x ≤ y) := by
      rw [List.take_of_length_le (by simp)]
    rw [e] at h1
    exact h1
theorem compactI_row (L : List Int) (v : Value) (base : Nat) (w : World) (hown : w.ownsRow base 3 1 v L.length (icells L)) (hlen : L.length < 4611686018427387904) :
    Calls Tryz.prog 80 #[v] w fun e w' => ∃ v', e = .returned v' ∧ ∃ L' : List Int, (∀ x, x ∈ L' ↔ x ∈ L) ∧ L'.length ≤ L.length ∧ w'.ownsRow base 3 1 v' L'.length (icells L') ∧ w.grownBy w' v.ownBlock := by
  obtain ⟨A, c, rfl, hA⟩ := owns_form hown
  rcases Nat.eq_zero_or_pos L.length with h0 | h0
  · obtain rfl : L = [] := List.eq_nil_of_length_eq_zero h0
    refine (Tryz.slices_Compact_int_empty A c w).mono ?_
    rintro e w' ⟨rfl, rfl⟩
    exact ⟨_, rfl, [], fun x => Iff.rfl, Nat.le_refl _, hown, World.grownBy.refl _ _⟩
  · obtain ⟨g, rfl⟩ := hA h0
    obtain ⟨cur, hg, hnc, hcm, hcs, ht, hbg⟩ := owns_block hown
    refine (Tryz.slices_Compact_int g 0 c L w (holds_row hown) (by omega) hnc).mono ?_
    rintro e w' ⟨rfl, q, hq⟩
    have hle := Lib.compact_length_le L
    have hat : At (Value.int .i64) w g 0 (Lib.compact L ++ List.replicate (L.length - (Lib.compact L).length) 0).toArray w' := ⟨q, #[], by rw [grow_empty]; exact hq⟩
    obtain ⟨h1, h2⟩ := owns_put hown (by simp; omega) hle hat
    refine ⟨_, rfl, Lib.compact L, mem_compact L, hle, ?_, h2⟩
    have e : (Lib.compact L ++ List.replicate (L.length - (Lib.compact L).length) 0).toArray.toList.take (Lib.compact L).length = Lib.compact L := by
      simp
    rw [e] at h1
    exact h1
end Go.Proofs.YthhcaoljejifeaaGreat

/-
  The arena's Support.
-/
namespace Go.Proofs.YthhcaoljejifeaaGreat
open Go Go.RowKit Go.ChangeMaps Go.MapKept Go.Maps Go.Lib Go.Sort

theorem below_grown {w0 w w' : World} {v : Value} {B : Nat} (hb : Below B w0 w) (hB : B ≤ w.heap.size) (hg : w.grownBy w' v.ownBlock) (hv : ∀ g, v.ownBlock = some g → B ≤ g) : Below B w0 w' :=
  ⟨hg.os.trans hb.os, hg.tape.trans hb.tape, hg.output.trans hb.output, Nat.le_trans hb.size hg.size, fun k hk => (hg.block k (by omega) (fun e => by have := hv k e.symm; omega)).trans (hb.block k hk)⟩
set_option maxRecDepth 100000 in
set_option maxHeartbeats 1000000 in
theorem Support_any {w : World} {B : Nat} {A : Blks} {V Mo : Nat} {N : List Nd} {H G : List Nat} (f : Nat) (hA : ArAt w B A V Mo N H G) (hf : f ∈ G ∧ f < N.length) :
    Calls Tryz.prog 65 #[A.val, .int .i64 f] w fun e w' => ∃ (v : Value) (L : List Int), e = .returned (.tuple #[v, .int .i64 0]) ∧ w'.ownsRow w.heap.size 3 1 v L.length (icells L) ∧
      (∀ x, x ∈ L ↔ ∃ i, 2 ≤ i ∧ Rch N f i ∧ x = ((nd N i).v : Int)) ∧ L.length ≤ 2147483647 ∧ Below w.heap.size w w' := by
  have hle : N.length ≤ 2147483647 := by obtain ⟨_, h⟩ := hA; exact h.le
  have hwf : WF N := by obtain ⟨_, h⟩ := hA; exact h.wf
  have HMEM : Hid (∀ x : Int, x ∈ (bel N (f + 1) f []).map (fun (i : Nat) => ((nd N i).v : Int)) ↔ ∃ i, 2 ≤ i ∧ Rch N f i ∧ x = ((nd N i).v : Int)) := Lib.hid fun x => by
    rw [List.mem_map]
    constructor
    · rintro ⟨i, hi, rfl⟩
      have := (mem_all hwf hf.2 i).1 hi
      exact ⟨i, this.1, this.2, rfl⟩
    · rintro ⟨i, h2, hr, rfl⟩
      exact ⟨i, (mem_all hwf hf.2 i).2 ⟨h2, hr⟩, rfl⟩
  generalize hF : bel N (f + 1) f [] = F at *
  have hb0 := below1 w (.cells #[.pointer (some ⟨A.a, 0, none⟩)] 96)
  have hs0 : (w.alloc (.cells #[.pointer (some ⟨A.a, 0, none⟩)] 96)).heap.size = w.heap.size + 1 := by simp
  have hk0 := blk1 w (.cells #[.pointer (some ⟨A.a, 0, none⟩)] 96)
  have hc0 := cell0 hk0
  have hb1 := hb0.alloc hb0.size (.cells ([f].map fun (n : Nat) => Value.int .i64 (n : Int)).toArray 3)
  have hb01 := below1 (w.alloc (.cells #[.pointer (some ⟨A.a, 0, none⟩)] 96)) (.cells ([f].map fun (n : Nat) => Value.int .i64 (n : Int)).toArray 3)
  have hck := check_any (hA.below hb1) [f] (w.heap.size + 1) 1 (by
    have := new_cells (w.alloc (.cells #[.pointer (some ⟨A.a, 0, none⟩)] 96)) [f] 3
    rw [hs0] at this
    exact this) (by
    intro x hx
    simp at hx
    subst hx
    exact ⟨hf.1, by omega⟩) (by simp)
  have hck : Calls Tryz.prog 50 #[A.val, .slice (some ⟨w.heap.size + 1, 0, none⟩) 1 1] ((w.alloc (.cells #[.pointer (some ⟨A.a, 0, none⟩)] 96)).alloc (.cells #[.int .i64 f] 3)) fun e w' => e = .returned (.int .i64 0) ∧ Below ((w.alloc (.cells #[.pointer (some ⟨A.a, 0, none⟩)] 96)).alloc (.cells #[.int .i64 f] 3)).heap.size ((w.alloc (.cells #[.pointer (some ⟨A.a, 0, none⟩)] 96)).alloc (.cells #[.int .i64 f] 3)) w' := hck
  have HB1 := Lib.hid hb1
  have HK1 := Lib.hid (blk_below hb01 hk0)
  have HCK := Lib.hid hck
  have HA := Lib.hid hA
  have f1 := hf.2
  have f2 : (f : Int) ≤ 2147483646 := by omega
  have HF := Lib.hid hF
  clear hA hb0 hs0 hk0 hb1 hb01 hck hf hF hwf
  unfold Blks.val at *
  go_enter Tryz.func65, Tryz.ntmps65
  go_upto_region 4 with ((with_reducible refine HCK.out.mono ?_); rintro e W2 ⟨rfl, hb2⟩; have HB2 := Lib.hid (HB1.out.trans (hb2.mono HB1.out.size)); have HK2 := Lib.hid (blk_below hb2 HK1.out); clear hb2)
  go_upto_region 5 with fail
  have hb3 := HB2.out.alloc HB2.out.size (.cells #[.slice none 0 0] 37)
  have kn := blk1 W2 (.cells #[.slice none 0 0] 37)
  have ka := blk_below (below1 W2 (.cells #[.slice none 0 0] 37)) HK2.out
  have hA3 := HA.out.below hb3
  have la := lt_of_block HK2.out
  have hst : SupSt w B A V Mo N H G W2.heap.size w.heap.size [] (W2.alloc (.cells #[.slice none 0 0] 37)) :=
    ⟨hA3, ⟨.slice none 0 0, kn, World.ownsRow_nil _ _ _ _, by simp [Value.ownBlock], by simp [Value.ownBlock], fun g hg => by simp [Value.ownBlock] at hg⟩, ka, ⟨HA.out.foreign_new hb3 HB2.out.size (lt_of_block kn), HA.out.foreign_new hb3 (Nat.le_refl _) (lt_of_block ka), by omega, HB2.out.size, Nat.le_refl _⟩, hb3, ⟨List.nodup_nil, by simp⟩⟩
  have hbl := below_any supDo f f1 hst
  rw [HF.out] at hbl
  unfold Blks.val at hbl
  have HBL := Lib.hid hbl
  have ca := cell0 ka
  clear hbl hst kn ka hb3 hA3 HA HB1 HCK HK1 la
  generalize W2.alloc (.cells #[.slice none 0 0] 37) = W3 at *
  go_upto_region 6 with ((with_reducible refine HBL.out.mono ?_); rintro e W4 ⟨rfl, hs4⟩; have HS4 := Lib.hid hs4; clear hs4)
  obtain ⟨fv, o1, o2, o3, o4, o5⟩ := HS4.out.o
  have hlF := HS4.out.ok.len
  have hsl : supL N F = icells (F.map fun (i : Nat) => ((nd N i).v : Int)) := by simp [supL, icells]
  rw [hsl] at o2
  have hlen : (F.map fun (i : Nat) => ((nd N i).v : Int)).length = F.length := by simp
  rw [← hlen] at o2
  have hfl : (F.map fun (i : Nat) => ((nd N i).v : Int)).length ≤ 2147483647 := by omega
  clear hlen
  generalize (F.map fun (i : Nat) => ((nd N i).v : Int)) = L at *
  have c1 := cell0 o1
  have HSRT := Lib.hid (sortI_row L fv w.heap.size W4 o2 (by omega))
  have HBX := Lib.hid (And.intro o1 (And.intro o3 HS4.out.b))
  have HLT := Lib.hid (fun g (hg : fv.ownBlock = some g) => (o2.lt g hg).1)
  obtain ⟨Af, cf, rfl, _⟩ := owns_form o2
  clear o1 o2 o3 o4 o5 hsl HS4 HBL HK2 hlF ca
  go_upto_region 7 with ((with_reducible refine HSRT.out.mono ?_); rintro e W5 ⟨rfl, L5, hm5, hl5, ho5, hg5⟩; have HX5 := Lib.hid (And.intro hm5 (And.intro hl5 (And.intro ho5 hg5))); clear hm5 hl5 ho5 hg5)
  have c5 : W5.cell? ⟨W2.heap.size, 0, none⟩ = some (.slice Af L.length cf) := cell0 ((HX5.out.2.2.2.block _ (lt_of_block HBX.out.1) (fun e => HBX.out.2.1 e.symm)).trans HBX.out.1)
  have HCMP := Lib.hid (compactI_row L5 (.slice Af L.length cf) w.heap.size W5 HX5.out.2.2.1 (by have := HX5.out.2.1; omega))
  clear c1
  go_wp2_with ((with_reducible refine HCMP.out.mono ?_); rintro e W6 ⟨v6, rfl, L6, hm6, hl6, ho6, hg6⟩; have HX6 := Lib.hid (And.intro hm6 (And.intro hl6 (And.intro ho6 hg6))); clear hm6 hl6 ho6 hg6)
  go_ret2
  have hb5 := below_grown HBX.out.2.2 HBX.out.2.2.size HX5.out.2.2.2 HLT.out
  have hb6 := below_grown hb5 hb5.size HX6.out.2.2.2 HLT.out
  exact ⟨v6, L6, rfl, HX6.out.2.2.1, fun x => (HX6.out.1 x).trans ((HX5.out.1 x).trans (HMEM.out x)), by have := HX6.out.2.1; have := HX5.out.2.1; omega, hb6⟩
end Go.Proofs.YthhcaoljejifeaaGreat

/-
  What a space checks: nodes, and sets.
-/
namespace Go.Proofs.YthhcaoljejifeaaGreat
open Go Go.RowKit Go.ChangeMaps Go.MapKept Go.Maps Go.Lib Go.Sort

/-- A list of numbers in memory, in a block that is none of the space's. -/
structure RowI (A : Blks) (km : Nat) (w : World) (v : Value) (l : List Int) : Prop where
  form : ∃ (P : Option Addr) (c : Nat), v = .slice P l.length c ∧ ∀ (i : Nat) x, l[i]? = some x → ∃ g, P = some ⟨g, 0, none⟩ ∧ w.cell? ⟨g, i, none⟩ = some (.int .i64 x) ∧ Foreign A w g ∧ g ≠ km
  range : ∀ x ∈ l, -9223372036854775808 ≤ x ∧ x ≤ 9223372036854775807
theorem RowI.kept {A : Blks} {km : Nat} {w w' : World} {v : Value} {l : List Int} (h : RowI A km w v l) (k : KeptS A km w w') : RowI A km w' v l := by
  obtain ⟨P, c, hv, hc⟩ := h.form
  refine ⟨⟨P, c, hv, fun i x hx => ?_⟩, h.range⟩
  obtain ⟨g, h1, h2, h3, h4⟩ := hc i x hx
  exact ⟨g, h1, (World.cell?_of_block (k.same g h3 h4).1).trans h2, (k.same g h3 h4).2, h4⟩
theorem RowI.nil (A : Blks) (km : Nat) (w : World) : RowI A km w (.slice none 0 0) [] := ⟨⟨none, 0, rfl, fun i x h => by simp at h⟩, by simp⟩
def NodeOk (σ : Sg) (x : Int) : Prop := ∃ g ∈ σ.G, x = (g : Int)
def SetOk (σ : Sg) (x : Int) : Prop := ∃ g ∈ σ.G, x = (g : Int) ∧ IsSet σ.N g
def AllNum (σ : Sg) (sets nodes : List Int) : Prop := (∀ x ∈ nodes, NodeOk σ x) ∧ ∀ x ∈ sets, SetOk σ x
def Sg.know (σ : Sg) (K : List (Value × Value)) : Sg := ⟨σ.N, σ.H, σ.G, K⟩
/-- What is known turned, and nothing else. -/
theorem SpOk.knows {w w' : World} {B S km : Nat} {A : Blks} {Mo : Nat} {σ : Sg} (h : SpOk w B S km A Mo σ) {x : Int} {v : Value} (hm : MapAt Tryz.prog 3 w' km (putM σ.K (.int .i64 x) v)) (hg : w.grownBy w' (some km))
    (hv : ∃ g ∈ σ.G, x = (g : Int) ∧ (v = .int .i64 1 ∨ v = .int .i64 2 ∧ IsSet σ.N g)) : SpOk w' B S km A Mo (σ.know (putM σ.K (.int .i64 x) v)) ∧ KeptS A km w w' := by
  obtain ⟨nv, hA⟩ := h.sp.ar
  obtain ⟨a1, a2, a3⟩ := hA.calm hg.size fun k hk hf => hg.block k hk (fun e => hf (by injection e with e; rw [e]; exact h.sp.fk))
  have hS := lt_of_block h.sp.cells
  refine ⟨⟨⟨⟨nv, a1⟩, (hg.block S hS (fun e => h.sp.ne (by injection e))).trans h.sp.cells, a2 _ h.sp.fs, hm, a2 _ h.sp.fk, h.sp.ne⟩, ⟨h.ok.wf, h.ok.hok, h.ok.cl, h.ok.g, h.ok.g0, h.ok.g1, fun p hp => ?_, h.ok.mo, h.ok.le⟩⟩, ⟨hg.os, hg.tape, hg.output, hg.size, fun k hk hn => ⟨hg.block k hk.1 (fun e => hn (by injection e)), a2 k hk⟩⟩⟩
  have hp : p ∈ putM σ.K (.int .i64 x) v := hp
  unfold putM at hp
  obtain ⟨g, g1, g2, g3⟩ := hv
  split at hp
  · obtain ⟨q, hq, rfl⟩ := List.mem_map.1 hp
    split
    · exact ⟨g, g1, by rw [g2], g3⟩
    · exact h.ok.k q hq
  · rcases List.mem_append.1 hp with hp | hp
    · exact h.ok.k p hp
    · obtain rfl := List.mem_singleton.1 hp
      exact ⟨g, g1, by rw [g2], g3⟩
theorem isSet_iff {N : List Nd} (w : WF N) {g : Nat} (hg : g < N.length) : IsSet N g ↔ ∀ i, 2 ≤ i → Rch N g i → (nd N i).v % 2 = 0 := by
  constructor
  · intro h i h2 hr
    rcases Nat.mod_two_eq_zero_or_one (nd N i).v with e | e
    · exact e
    · exact absurd (h _ e) (not_free w hg hr h2)
  · intro h v hv
    refine free_of w hg fun j hj hr e => ?_
    have := h j hj hr
    omega
theorem SpOk.look {w : World} {B S km : Nat} {A : Blks} {Mo : Nat} {σ : Sg} (h : SpOk w B S km A Mo σ) (x : Int) (hx : -9223372036854775808 ≤ x ∧ x ≤ 9223372036854775807) :
    ∃ v : Int, (Instr.lookup 99 (.map (some km)) (.int .i64 x) false).run Tryz.prog w = .ok (.int .i64 v) w ∧ (v = 0 ∨ v = 1 ∧ NodeOk σ x ∨ v = 2 ∧ SetOk σ x) := by
  have h1 := h.sp.known.look i64_keyed Tryz.underlying99 (show (zeroValue 3).run Tryz.prog w = .ok (.int .i64 0) w by kernel_rfl) false (key_i64 hx)
  cases hg : getM σ.K (.int .i64 x) with
  | none =>
    rw [hg] at h1
    exact ⟨0, h1, .inl rfl⟩
  | some u =>
    rw [hg] at h1
    obtain ⟨g, g1, g2, g3⟩ := h.ok.k _ (getM_mem hg)
    have hxg : x = (g : Int) := by
      have g2 : Value.int .i64 x = .int .i64 (g : Int) := g2
      injection g2
    rcases g3 with g3 | ⟨g3, g4⟩
    · have g3 : u = .int .i64 1 := g3
      subst g3
      exact ⟨1, h1, .inr (.inl ⟨rfl, g, g1, hxg⟩)⟩
    · have g3 : u = .int .i64 2 := g3
      subst g3
      exact ⟨2, h1, .inr (.inr ⟨rfl, g, g1, hxg, g4⟩)⟩
theorem AllNum.snoc {P : Int → Prop} {l : List Int} {k : Nat} {x : Int} (h : ∀ y ∈ l.take k, P y) (hx : l[k]? = some x) (hp : P x) : ∀ y ∈ l.take (k + 1), P y := by
  intro y hy
  rw [List.take_add_one, hx] at hy
  rcases List.mem_append.1 hy with hy | hy
  · exact h y hy
  · simp at hy
    rw [hy]
    exact hp
/-- What checked comes to. -/
def ChRes (w : World) (B S km : Nat) (A : Blks) (Mo : Nat) (σ : Sg) (sets nodes : List Int) (e : Ending) (w' : World) : Prop :=
  ∃ K, SpOk w' B S km A Mo (σ.know K) ∧ KeptS A km w w' ∧ (e = .returned (.int .i64 0) ∧ AllNum σ sets nodes ∨ e = .returned (.int .i64 1) ∧ ¬ AllNum σ sets nodes)
set_option maxRecDepth 100000 in
set_option maxHeartbeats 4000000 in
theorem checked_any {w : World} {B S km : Nat} {A : Blks} {Mo : Nat} {σ : Sg} (h : SpOk w B S km A Mo σ) (sv nv : Value) (sets nodes : List Int) (hs : RowI A km w sv sets) (hn : RowI A km w nv nodes) (ls : sets.length ≤ 1000) (ln : nodes.length ≤ 1000) :
    Calls Tryz.prog 49 #[.pointer (some ⟨S, 0, none⟩), sv, nv] w (ChRes w B S km A Mo σ sets nodes) := by
  have HS := Lib.hid h
  have HSV := Lib.hid hs
  have HNV := Lib.hid hn
  obtain ⟨Ps, cs, rfl, _⟩ := hs.form
  obtain ⟨Pn, cn, rfl, _⟩ := hn.form
  clear h hs hn
  go_enter Tryz.func49, Tryz.ntmps49
  go_wp2
  go_loopw [21] (fun i wr => ∃ k : Nat, i = .int .i64 k ∧ k ≤ nodes.length ∧ ∃ K, Hid (SpOk wr B S km A Mo (σ.know K)) ∧ Hid (KeptS A km w wr) ∧ Hid (∀ y ∈ nodes.take k, NodeOk σ y)) (fun i _ => nodes.length - (intOf i).toNat)
  case atStart => exact ⟨0, rfl, by omega, σ.K, HS, Lib.hid (KeptS.refl _ _ _), Lib.hid (by simp)⟩
  case round =>
    obtain ⟨k, rfl, hk, K, HSR, HKR, HOK⟩ := hrel
    have c0 := HSR.out.sp.c0
    have c1 := HSR.out.sp.c1
    by_cases hlt : k < nodes.length
    · have hI : (k : Int) < (nodes.length : Int) := by omega
      obtain ⟨x, hx⟩ : ∃ x, nodes[k]? = some x := ⟨_, List.getElem?_eq_getElem hlt⟩
      obtain ⟨P', c', hv', hcell⟩ := (HNV.out.kept HKR.out).form
      injection hv' with hP hlq hcq
      subst hP hcq
      clear hlq
      obtain ⟨g, rfl, hcx, _, _⟩ := hcell k x hx
      have hxr := HNV.out.range x (List.mem_of_getElem? hx)
      obtain ⟨v, hlook, hvs⟩ := HSR.out.look x hxr
      have HX := Lib.hid hx
      have HR := Lib.hid hxr
      clear hx hxr hcell
      by_cases hv1 : v ≥ 1
      · have HN := Lib.hid (show NodeOk σ x from by
          rcases hvs with h | ⟨_, h⟩ | ⟨_, h⟩
          · omega
          · exact h
          · obtain ⟨g, g1, g2, _⟩ := h; exact ⟨g, g1, g2⟩)
        clear hvs
        go_wp2
        exact ⟨⟨k + 1, by go_num, by omega, K, HSR, HKR, Lib.hid (AllNum.snoc HOK.out HX.out HN.out)⟩, by simp only [intOf]; omega⟩
      · clear hvs
        by_cases hno : NodeOk σ x
        · obtain ⟨f, hf, rfl⟩ := hno
          have hSz := Size_any f HSR.out.sp.ar ⟨hf, (HSR.out.ok.g f hf).1⟩
          unfold Blks.val at hSz
          have HSZ := Lib.hid hSz
          have HF := Lib.hid hf
          clear hSz hf
          go_upto_region 10 with ((with_reducible refine HSZ.out.mono ?_); rintro e W2 ⟨rfl, hb2⟩; have HS2 := Lib.hid (HSR.out.below hb2); have HK2 := Lib.hid (HKR.out.trans (HSR.out.kept hb2)); clear hb2)
          have c0 := HS2.out.sp.c0
          have c1 := HS2.out.sp.c1
          have hkx := key_i64 HR.out
          go_wp2_with (refine wpList_mapAt rfl _ _ _ 99 3 rfl i64_keyed Tryz.underlying99 rfl (show MapAt _ _ W2 _ _ from HS2.out.sp.known) (.int .i64 f) (.int .i64 1) _ rfl rfl hkx ?_; intro w3 hm3 hg3; obtain ⟨p1, p2⟩ := HS2.out.knows hm3 hg3 ⟨f, HF.out, rfl, .inl rfl⟩; have P1 := Lib.hid p1; have P2 := Lib.hid (HK2.out.trans p2); clear p1 p2 hm3 hg3)
          exact ⟨⟨k + 1, by go_num, by omega, _, P1, P2, Lib.hid (AllNum.snoc HOK.out HX.out ⟨f, HF.out, rfl⟩)⟩, by simp only [intOf]; omega⟩
        · have hSz := Size_no x HSR.out.sp.ar HR.out (fun g hg e => hno ⟨g, hg, e⟩)
          unfold Blks.val at hSz
          have HSZ := Lib.hid hSz
          have HNO := Lib.hid hno
          clear hSz hno
          go_wp2_with ((with_reducible refine HSZ.out.mono ?_); rintro e W2 ⟨rfl, hb2⟩; have HS2 := Lib.hid (HSR.out.below hb2); have HK2 := Lib.hid (HKR.out.trans (HSR.out.kept hb2)); clear hb2)
          go_ret
          exact ⟨K, HS2.out, HK2.out, .inr ⟨rfl, fun h => HNO.out (h.1 x (List.mem_of_getElem? HX.out))⟩⟩
    · obtain rfl : k = nodes.length := by omega
      have hI : ¬ (nodes.length : Int) < (nodes.length : Int) := by omega
      have HN := Lib.hid (show ∀ y ∈ nodes, NodeOk σ y by have := HOK.out; rw [List.take_length] at this; exact this)
      clear HOK
      go_wp2
      go_loopw [51] (fun i w2 => ∃ k : Nat, i = .int .i64 k ∧ k ≤ sets.length ∧ ∃ K, Hid (SpOk w2 B S km A Mo (σ.know K)) ∧ Hid (KeptS A km w w2) ∧ Hid (∀ y ∈ sets.take k, SetOk σ y)) (fun i _ => sets.length - (intOf i).toNat)
      case atStart => exact ⟨0, rfl, by omega, K, HSR, HKR, Lib.hid (by simp)⟩
      case round =>
        obtain ⟨k, rfl, hk, K, HSR, HKR, HOK⟩ := hrel
        have c0 := HSR.out.sp.c0
        have c1 := HSR.out.sp.c1
        by_cases hlt : k < sets.length
        · have hI : (k : Int) < (sets.length : Int) := by omega
          obtain ⟨x, hx⟩ : ∃ x, sets[k]? = some x := ⟨_, List.getElem?_eq_getElem hlt⟩
          obtain ⟨P', c', hv', hcell⟩ := (HSV.out.kept HKR.out).form
          injection hv' with hP hlq hcq
          subst hP hcq
          clear hlq
          obtain ⟨g, rfl, hcx, _, _⟩ := hcell k x hx
          have hxr := HSV.out.range x (List.mem_of_getElem? hx)
          obtain ⟨v, hlook, hvs⟩ := HSR.out.look x hxr
          have HX := Lib.hid hx
          have HR := Lib.hid hxr
          clear hx hxr hcell
          by_cases hv2 : v = 2
          · subst hv2
            have HS2 := Lib.hid (show SetOk σ x from by
              rcases hvs with h | ⟨h, _⟩ | ⟨_, h⟩
              · omega
              · omega
              · exact h)
            clear hvs
            go_wp2
            exact ⟨⟨k + 1, by go_num, by omega, K, HSR, HKR, Lib.hid (AllNum.snoc HOK.out HX.out HS2.out)⟩, by simp only [intOf]; omega⟩
          · clear hvs
            by_cases hno : NodeOk σ x
            · obtain ⟨f, hf, rfl⟩ := hno
              have hfl := (HSR.out.ok.g f hf).1
              have hSz := Support_any f HSR.out.sp.ar ⟨hf, hfl⟩
              unfold Blks.val at hSz
              have HSZ := Lib.hid hSz
              have HF := Lib.hid hf
              have HISET := Lib.hid (isSet_iff HSR.out.ok.wf hfl)
              clear hSz hf hfl
              go_upto_region 19 with ((with_reducible refine HSZ.out.mono ?_); rintro e W2 ⟨v2, L, rfl, ho2, hm2, hl2, hb2⟩; have HS2 := Lib.hid (HSR.out.below hb2); have HK2 := Lib.hid (HKR.out.trans (HSR.out.kept hb2)); have HO2 := Lib.hid (And.intro ho2 hm2); obtain ⟨A2, c2, hv2e, _⟩ := owns_form ho2; subst hv2e; clear hb2 ho2 hm2)
              have c0 := HS2.out.sp.c0
              have c1 := HS2.out.sp.c1
              go_wp2
              go_loop [75] (fun i => ∃ j : Nat, i = .int .i64 j ∧ j ≤ L.length ∧ Hid (∀ y ∈ L.take j, y % 2 = 0)) (fun i => L.length - (intOf i).toNat)
              case atStart => exact ⟨0, rfl, by omega, Lib.hid (by simp)⟩
              case round =>
                obtain ⟨j, rfl, hj, HEV⟩ := hrel
                by_cases hjl : j < L.length
                · have hI2 : (j : Int) < (L.length : Int) := by omega
                  obtain ⟨y, hy⟩ : ∃ y, L[j]? = some y := ⟨_, List.getElem?_eq_getElem hjl⟩
                  obtain ⟨i0, i2, ir, rfl⟩ := (HO2.out.2 y).1 (List.mem_of_getElem? hy)
                  obtain ⟨A3, c3, hv3, hA3⟩ := owns_form HO2.out.1
                  injection hv3 with hP3 hlq hcq
                  subst hP3 hcq
                  clear hlq
                  obtain ⟨g2, rfl⟩ := hA3 (by omega)
                  have hcy : W2.cell? ⟨g2, j, none⟩ = some (.int .i64 (((nd (σ.know K).N i0).v : Nat) : Int)) := (HO2.out.1.cellAt j (by omega)).trans (icell hy)
                  have HY := Lib.hid hy
                  have HI := Lib.hid (And.intro i2 ir)
                  clear hy i2 ir hA3
                  generalize hnv : (nd (σ.know K).N i0).v = n at *
                  by_cases ho : n % 2 = 1
                  · have ht : (n : Int).tmod 2 = 1 := by rw [Int.tmod_eq_emod_of_nonneg (by omega)]; omega
                    have HO := Lib.hid (And.intro ho hnv)
                    clear ho hnv
                    go_wp2
                    go_ret
                    refine ⟨K, HS2.out, HK2.out, .inr ⟨rfl, fun h => ?_⟩⟩
                    obtain ⟨g', g1, g3, g4⟩ := h.2 _ (List.mem_of_getElem? HX.out)
                    have : g' = f := by omega
                    subst this
                    have := HISET.out.1 g4 i0 HI.out.1 HI.out.2
                    have := HO.out
                    omega
                  · have ht : (n : Int).tmod 2 = 0 := by rw [Int.tmod_eq_emod_of_nonneg (by omega)]; omega
                    have HE := Lib.hid (show (n : Int) % 2 = 0 by omega)
                    clear ho hnv
                    go_wp2
                    exact ⟨⟨j + 1, by go_num, by omega, Lib.hid (AllNum.snoc (P := fun y => y % 2 = 0) HEV.out HY.out HE.out)⟩, by simp only [intOf]; omega⟩
                · obtain rfl : j = L.length := by omega
                  have hI2 : ¬ (L.length : Int) < (L.length : Int) := by omega
                  have hkx := key_i64 HR.out
                  have HST := Lib.hid (show IsSet σ.N f from HISET.out.2 fun i i2 ir => by
                    have h1 := (HO2.out.2 ((nd (σ.know K).N i).v : Int)).2 ⟨i, i2, ir, rfl⟩
                    have h2 := HEV.out
                    rw [List.take_length] at h2
                    have := h2 _ h1
                    omega)
                  clear HEV
                  go_wp2_with (refine wpList_mapAt rfl _ _ _ 99 3 rfl i64_keyed Tryz.underlying99 rfl (show MapAt _ _ W2 _ _ from HS2.out.sp.known) (.int .i64 f) (.int .i64 2) _ rfl rfl hkx ?_; intro w3 hm3 hg3; obtain ⟨p1, p2⟩ := HS2.out.knows hm3 hg3 ⟨f, HF.out, rfl, .inr ⟨rfl, HST.out⟩⟩; have P1 := Lib.hid p1; have P2 := Lib.hid (HK2.out.trans p2); clear p1 p2 hm3 hg3)
                  exact ⟨⟨k + 1, by go_num, by omega, _, P1, P2, Lib.hid (AllNum.snoc HOK.out HX.out ⟨f, HF.out, rfl, HST.out⟩)⟩, by simp only [intOf]; omega⟩
            · have hSz := Support_no x HSR.out.sp.ar HR.out (fun g hg e => hno ⟨g, hg, e⟩)
              unfold Blks.val at hSz
              have HSZ := Lib.hid hSz
              have HNO := Lib.hid hno
              clear hSz hno
              go_wp2_with ((with_reducible refine HSZ.out.mono ?_); rintro e W2 ⟨rfl, hb2⟩; have HS2 := Lib.hid (HSR.out.below hb2); have HK2 := Lib.hid (HKR.out.trans (HSR.out.kept hb2)); clear hb2)
              go_ret
              exact ⟨K, HS2.out, HK2.out, .inr ⟨rfl, fun h => HNO.out (by obtain ⟨g, g1, g2, _⟩ := h.2 x (List.mem_of_getElem? HX.out); exact ⟨g, g1, g2⟩)⟩⟩
        · obtain rfl : k = sets.length := by omega
          have hI : ¬ (sets.length : Int) < (sets.length : Int) := by omega
          have HN2 := Lib.hid (show ∀ y ∈ sets, SetOk σ y by have := HOK.out; rw [List.take_length] at this; exact this)
          clear HOK
          go_wp2
          go_ret
          exact ⟨K, HSR.out, HKR.out, .inl ⟨rfl, HN.out, HN2.out⟩⟩
end Go.Proofs.YthhcaoljejifeaaGreat

/-
  What a space asks its arena of two sets.
-/
namespace Go.Proofs.YthhcaoljejifeaaGreat
open Go Go.RowKit Go.ChangeMaps Go.MapKept Go.Maps Go.Lib Go.Sort

/-- A function of headers: it hangs on no variable of the bits behind. -/
def SetF (F : Fun) : Prop := ∀ v, v % 2 = 1 → Free F v
theorem Den.setOk {σ : Sg} {g : Nat} {F : Fun} (h : Den σ g F) (s : SetF F) : SetOk σ (g : Int) := ⟨g, h.1, rfl, by
  unfold IsSet
  rw [show (fun s => ev σ.N s g) = F from funext h.2]
  exact s⟩
theorem Den.known {σ : Sg} {g : Nat} {F : Fun} (h : Den σ g F) (K : List (Value × Value)) : Den (σ.know K) g F := h
theorem Den.lt64 {Mo : Nat} {σ : Sg} {g : Nat} {F : Fun} (h : Den σ g F) (o : SgOk Mo σ) : g < 2147483647 ∧ (g : Int) ≤ 2147483646 := by
  have := (o.g g h.1).1
  have := o.le
  omega
theorem To.know (σ : Sg) (K : List (Value × Value)) : To 0 0 σ (σ.know K) := ⟨Ext.refl _, Nat.le_refl _, Nat.le_refl _, fun _ h => h, fun _ h => h⟩
theorem ChRes.form {w w' : World} {B S km : Nat} {A : Blks} {Mo : Nat} {σ : Sg} {sets nodes : List Int} {e : Ending} (h : ChRes w B S km A Mo σ sets nodes e w') : ∃ c : Int, e = .returned (.int .i64 c) := by
  obtain ⟨_, _, _, ⟨rfl, _⟩ | ⟨rfl, _⟩⟩ := h
  · exact ⟨_, rfl⟩
  · exact ⟨_, rfl⟩
theorem ChRes.yes {w w' : World} {B S km : Nat} {A : Blks} {Mo : Nat} {σ : Sg} {sets nodes : List Int} {e : Ending} (h : ChRes w B S km A Mo σ sets nodes e w') (ok : AllNum σ sets nodes) : e = .returned (.int .i64 0) ∧ ∃ K, SpOk w' B S km A Mo (σ.know K) ∧ KeptS A km w w' := by
  obtain ⟨K, h1, h2, ⟨h3, _⟩ | ⟨_, h3⟩⟩ := h
  · exact ⟨h3, K, h1, h2⟩
  · exact absurd ok h3
theorem ChRes.no {w w' : World} {B S km : Nat} {A : Blks} {Mo : Nat} {σ : Sg} {sets nodes : List Int} {e : Ending} (h : ChRes w B S km A Mo σ sets nodes e w') (ok : ¬ AllNum σ sets nodes) : e = .returned (.int .i64 1) ∧ ∃ K, SpOk w' B S km A Mo (σ.know K) ∧ KeptS A km w w' := by
  obtain ⟨K, h1, h2, ⟨_, h3⟩ | ⟨h3, _⟩⟩ := h
  · exact absurd h3 ok
  · exact ⟨h3, K, h1, h2⟩
/-- Numbers laid in a fresh block. -/
theorem RowI.fresh {w : World} {B S km : Nat} {A : Blks} {Mo : Nat} {σ : Sg} (h : SpOk w B S km A Mo σ) (l : List Int) (hl : ∀ x ∈ l, -9223372036854775808 ≤ x ∧ x ≤ 9223372036854775807) (c : Nat) :
    RowI A km (w.alloc (.cells (l.map (Value.int .i64)).toArray 3)) (.slice (some ⟨w.heap.size, 0, none⟩) l.length c) l := by
  refine ⟨⟨_, c, rfl, fun i x hx => ⟨w.heap.size, rfl, ?_, h.sp.ar.foreign_new (below1 w _) (Nat.le_refl _) (by simp), ?_⟩⟩, hl⟩
  · have hb := blk1 w (.cells (l.map (Value.int .i64)).toArray 3)
    rw [cell_of_row _ _ i _ _ (0, 0) hb]
    simp [hx]
  · have := h.sp.fk.1
    omega
/-- checked, of numbers in a fresh block. -/
theorem SpOk.check {w : World} {B S km : Nat} {A : Blks} {Mo : Nat} {σ : Sg} (h : SpOk w B S km A Mo σ) (l : List Int) (hl : ∀ x ∈ l, -9223372036854775808 ≤ x ∧ x ≤ 9223372036854775807) (hn : l.length ≤ 1000) :
    Calls Tryz.prog 49 #[.pointer (some ⟨S, 0, none⟩), .slice (some ⟨w.heap.size, 0, none⟩) l.length l.length, .slice none 0 0] (w.alloc (.cells (l.map (Value.int .i64)).toArray 3)) (fun e w' => ChRes w B S km A Mo σ l [] e w') := by
  have hb := below1 w (.cells (l.map (Value.int .i64)).toArray 3)
  refine (checked_any (h.below hb) _ _ l [] (RowI.fresh h l hl _) (RowI.nil _ _ _) hn (by simp)).mono ?_
  rintro e w' ⟨K, h1, h2, h3⟩
  exact ⟨K, h1, (h.kept hb).trans h2, h3⟩
section
variable {w : World} {B S km : Nat} {A : Blks} {Mo : Nat} {σ : Sg}
set_option maxRecDepth 100000
set_option maxHeartbeats 1000000
theorem two_yes (h : SpOk w B S km A Mo σ) {fid : FuncId} {ts cs : Array Value} {Post : World → Ending → World → Prop} (hf : ∀ (r : Ending) (W W' : World), Post W r W' → ∃ q c : Int, r = .returned (.tuple #[.int .i64 q, .int .i64 c]))
    (en : ∀ (args : Array Value) (w : World), (callFunc fid args).run Tryz.prog w = .ok (.enter fid args) w) (x y : Int) (hx : -9223372036854775808 ≤ x ∧ x ≤ 9223372036854775807) (hy : -9223372036854775808 ≤ y ∧ y ≤ 9223372036854775807) (ok : AllNum σ [x, y] [])
    (hcall : ∀ (K : List (Value × Value)) (W : World), SpOk W B S km A Mo (σ.know K) → KeptS A km w W → Calls Tryz.prog fid (ts ++ (#[.int .i64 x, .int .i64 y] ++ cs)) W (Post W)) :
    Calls Tryz.prog 34 #[.pointer (some ⟨S, 0, none⟩), .int .i64 x, .int .i64 y, .func (.func fid) ts cs] w fun e w' => ∃ (K : List (Value × Value)) (W : World), SpOk W B S km A Mo (σ.know K) ∧ KeptS A km w W ∧ Post W e w' := by
  have hck := h.check [x, y] (by simp; exact ⟨hx, hy⟩) (by simp)
  have hck : Calls Tryz.prog 49 #[.pointer (some ⟨S, 0, none⟩), .slice (some ⟨w.heap.size, 0, none⟩) 2 2, .slice none 0 0] (w.alloc (.cells #[.int .i64 x, .int .i64 y] 3)) (fun e w' => ChRes w B S km A Mo σ [x, y] [] e w') := hck
  have HCK := Lib.hid hck
  have HCALL := Lib.hid hcall
  have HF := Lib.hid hf
  clear hck hcall hf h hx hy
  go_enter Tryz.func34, Tryz.ntmps34
  go_wp2_with ((with_reducible refine HCK.out.mono ?_); rintro e W2 hr; obtain ⟨he, K, hs2, hk2⟩ := hr.yes ok; subst he; have HS2 := Lib.hid hs2; have HK2 := Lib.hid hk2; clear hr hs2 hk2)
  refine (HCALL.out K W2 HS2.out HK2.out).mono ?_
  rintro e W3 hp
  have HP := Lib.hid hp
  obtain ⟨q, c, rfl⟩ := HF.out _ _ _ hp
  clear hp
  go_wp2
  go_ret2
  exact ⟨K, W2, HS2.out, HK2.out, HP.out⟩
/-- What a call on a space comes to that refuses its numbers. -/
def SpNo (w : World) (B S km : Nat) (A : Blks) (Mo : Nat) (σ : Sg) (e : Ending) (w' : World) : Prop := e = .returned (.tuple #[.int .i64 0, .int .i64 1]) ∧ ∃ K, SpOk w' B S km A Mo (σ.know K) ∧ KeptS A km w w'
theorem SpRes.known {w W w' : World} {F : Fun} {k m : Nat} {e : Ending} {K : List (Value × Value)} (h : SpRes W B S km A Mo (σ.know K) F k m e w') (hk : KeptS A km w W) : SpRes w B S km A Mo σ F k m e w' := by
  have := h.after (To.know σ K) hk
  simpa using this
theorem allOk2 {f g : Nat} {F G : Fun} (hf : Den σ f F) (hg : Den σ g G) (sf : SetF F) (sg : SetF G) : AllNum σ [(f : Int), (g : Int)] [] := ⟨by simp, by
  intro x hx
  simp at hx
  rcases hx with rfl | rfl
  · exact hf.setOk sf
  · exact hg.setOk sg⟩
theorem relAnd_yes (h : SpOk w B S km A Mo σ) {f g : Nat} {F G : Fun} (hf : Den σ f F) (hg : Den σ g G) (sf : SetF F) (sg : SetF G) {a b : Nat} (hgr : Grow σ.N σ.H (fun s => F s && G s) a b) (hl : σ.N.length + a ≤ 2147483647) :
    Calls Tryz.prog 42 #[.pointer (some ⟨S, 0, none⟩), .int .i64 f, .int .i64 g] w (SpRes w B S km A Mo σ (fun s => F s && G s) a b) := by
  have hfl := hf.lt64 h.ok
  have hgl := hg.lt64 h.ok
  have c0 := h.sp.c0
  have htwo := Lib.hid (two_yes (fid := 62) (ts := #[.pointer (some ⟨A.a, 0, none⟩)]) (cs := #[]) (Post := fun W e w' => ∃ K, SpRes W B S km A Mo (σ.know K) (fun s => F s && G s) a b e w') h (fun r W W' ⟨K, hr⟩ => hr.form) (fun _ _ => by go_simp) f g (by omega) (by omega) (allOk2 hf hg sf sg)
    (fun K W hs _ => (hs.and (hf.known K) (hg.known K) hgr hl).mono fun e w' hr => ⟨K, hr⟩))
  clear h hf hg sf sg hgr hl
  go_enter Tryz.func42, Tryz.ntmps42
  go_wp2_with ((with_reducible refine htwo.out.mono ?_); rintro e W2 ⟨K, W, hs, hk, K2, hr⟩; have HR := Lib.hid (hr.known hk); obtain ⟨q, c, rfl⟩ := hr.form; clear hs hk hr)
  go_ret2
  exact HR.out
end
end Go.Proofs.YthhcaoljejifeaaGreat

/-
  What a space makes of sets and relations (written by wip/gen/genrf1.py).
-/
namespace Go.Proofs.YthhcaoljejifeaaGreat
open Go Go.RowKit Go.ChangeMaps Go.MapKept Go.Maps Go.Lib Go.Sort

section
variable {w : World} {B S km : Nat} {A : Blks} {Mo : Nat} {σ : Sg}
set_option maxRecDepth 100000
set_option maxHeartbeats 1000000
def I64 (x : Int) : Prop := -9223372036854775808 ≤ x ∧ x ≤ 9223372036854775807
theorem relOr_yes (h : SpOk w B S km A Mo σ) {f g : Nat} {F G : Fun} (hf : Den σ f F) (hg : Den σ g G) (sf : SetF F) (sg : SetF G) {a b : Nat} (hgr : Grow σ.N σ.H (fun s => F s || G s) a b) (hl : σ.N.length + a ≤ 2147483647) :
    Calls Tryz.prog 18 #[.pointer (some ⟨S, 0, none⟩), .int .i64 f, .int .i64 g] w (SpRes w B S km A Mo σ (fun s => F s || G s) a b) := by
  have hfl := hf.lt64 h.ok
  have hgl := hg.lt64 h.ok
  have c0 := h.sp.c0
  have htwo := Lib.hid (two_yes (fid := 37) (ts := #[.pointer (some ⟨A.a, 0, none⟩)]) (cs := #[]) (Post := fun W e w' => ∃ K, SpRes W B S km A Mo (σ.know K) (fun s => F s || G s) a b e w') h (fun r W W' ⟨K, hr⟩ => hr.form) (fun _ _ => by go_simp) f g (by omega) (by omega) (allOk2 hf hg sf sg)
    (fun K W hs _ => (hs.or (hf.known K) (hg.known K) hgr hl).mono fun e w' hr => ⟨K, hr⟩))
  clear h hf hg sf sg hgr hl
  go_enter Tryz.func18, Tryz.ntmps18
  go_wp2_with ((with_reducible refine htwo.out.mono ?_); rintro e W2 ⟨K, W, hs, hk, K2, hr⟩; have HR := Lib.hid (hr.known hk); obtain ⟨q, c, rfl⟩ := hr.form; clear hs hk hr)
  go_ret2
  exact HR.out
theorem less1 (h : SpOk w B S km A Mo σ) {f g : Nat} {F G : Fun} (hf : Den σ f F) (hg : Den σ g G) {bx : Nat} (hb : w.cell? ⟨bx, 0, none⟩ = some (.pointer (some ⟨S, 0, none⟩))) {a b : Nat} (hgr : Grow σ.N σ.H (fun s => F s && !G s) a b) (hl : σ.N.length + a ≤ 2147483647) :
    Calls Tryz.prog 35 #[.int .i64 f, .int .i64 g, .pointer (some ⟨bx, 0, none⟩)] w (SpRes w B S km A Mo σ (fun s => F s && !G s) a b) := by
  have c0 := h.sp.c0
  have e : (fun s => F s && !G s) = fun s => if G s then false else F s := funext fun s => by cases F s <;> cases G s <;> rfl
  rw [e] at hgr ⊢
  have hite := Lib.hid (show Calls Tryz.prog 36 #[.pointer (some ⟨A.a, 0, none⟩), .int .i64 g, .int .i64 0, .int .i64 f] w (SpRes w B S km A Mo σ (fun s => if G s then false else F s) a b) from h.ite hg (Den.zero h.ok) hf hgr hl)
  clear h hf hg hgr hl e
  go_enter Tryz.func35, Tryz.ntmps35
  go_wp2_with ((with_reducible refine hite.out.mono ?_); rintro e W2 hr; have HR := Lib.hid hr; obtain ⟨q, c, rfl⟩ := hr.form; clear hr)
  go_ret2
  exact HR.out
theorem relLess_yes (h : SpOk w B S km A Mo σ) {f g : Nat} {F G : Fun} (hf : Den σ f F) (hg : Den σ g G) (sf : SetF F) (sg : SetF G) {a b : Nat} (hgr : Grow σ.N σ.H (fun s => F s && !G s) a b) (hl : σ.N.length + a ≤ 2147483647) :
    Calls Tryz.prog 17 #[.pointer (some ⟨S, 0, none⟩), .int .i64 f, .int .i64 g] w (SpRes w B S km A Mo σ (fun s => F s && !G s) a b) := by
  have hfl := hf.lt64 h.ok
  have hgl := hg.lt64 h.ok
  have hb := below1 w (.cells #[.pointer (some ⟨S, 0, none⟩)] 76)
  have kb := blk1 w (.cells #[.pointer (some ⟨S, 0, none⟩)] 76)
  have cb := cell0 kb
  have hkb := h.kept hb
  have hfo := h.sp.ar.foreign_new hb (Nat.le_refl _) (lt_of_block kb)
  have hfk := h.sp.fk.1
  have htwo := Lib.hid (two_yes (fid := 35) (ts := #[]) (cs := #[.pointer (some ⟨w.heap.size, 0, none⟩)]) (Post := fun W e w' => ∃ K, SpRes W B S km A Mo (σ.know K) (fun s => F s && !G s) a b e w') (h.below hb) (fun r W W' ⟨K, hr⟩ => hr.form) (fun _ _ => by go_simp) f g (by omega) (by omega) (allOk2 hf hg sf sg)
    (fun K W hs hk => (less1 hs (hf.known K) (hg.known K) (cell0 ((hk.same _ hfo (by omega)).1.trans kb)) hgr hl).mono fun e w' hr => ⟨K, hr⟩))
  have HK := Lib.hid hkb
  clear h hf hg sf sg hgr hl hb kb hkb hfo hfk
  go_enter Tryz.func17, Tryz.ntmps17
  go_wp2_with ((with_reducible refine htwo.out.mono ?_); rintro e W2 ⟨K, W, hs, hk, K2, hr⟩; have HR := Lib.hid (hr.known (HK.out.trans hk)); obtain ⟨q, c, rfl⟩ := hr.form; clear hs hk hr)
  go_ret2
  exact HR.out
end
end Go.Proofs.YthhcaoljejifeaaGreat

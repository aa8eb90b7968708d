/-
  Joined texts: Filt4, Filt5, Fr1, Fr2, Fr3, Fr4.
-/
import Derived.Test.YtcchiagclhkieaaMRelNames11
import Derived.Test.YtcchiagclhkieaaMRelNames12
import Derived.Test.YtcchiagclhkieaaMRelNames1
import Derived.Test.YtcchiagclhkieaaShelf2
import Derived.Test.YtcchiagclhkieaaMRelNames9
import Derived.Test.YtcchiagclhkieaaMRelNames5
/-
  Walks over the filter's layer: whole filters: Check.
-/
namespace Go.Proofs.Ytcchiagclhkieaa
open Go Go.RowKit

instance : Inhabited RuleV := ⟨⟨false, 0, 0, 0, 0, 0, 0, 0, 0, 0, by omega, by omega, by omega, by omega, by omega, by omega, by omega⟩⟩
/-- A rule's ten cells. -/
def RuleV.enc (r : RuleV) : List Value := [.bool r.permit, .int .i64 r.proto, .int .u32 r.sa, .int .i64 r.sn, .int .u32 r.da, .int .i64 r.dn, .int .u32 r.sl, .int .u32 r.sh, .int .u32 r.dl, .int .u32 r.dh]
theorem rule_len (r : RuleV) : r.enc.length = 10 := rfl
def rcells (L : List RuleV) : List Value := L.flatMap RuleV.enc

set_option maxHeartbeats 400000 in
theorem notMay_any (r : RuleV) (w : World) :
    Calls Try.prog 37 #[.agg #[.bool r.permit, .int .i64 r.proto, .int .u32 r.sa, .int .i64 r.sn, .int .u32 r.da, .int .i64 r.dn, .int .u32 r.sl, .int .u32 r.sh, .int .u32 r.dl, .int .u32 r.dh]] w fun e w' => e = .returned (.bool (!mayB r)) ∧ Below w.heap.size w w' := by
  go_enter Try.func37, Try.ntmps37
  go_wp2_with fail
  refine (may_any r _).mono ?_
  rintro e w1 ⟨rfl, hb⟩
  have hbw := below_call (below1 w _) hb
  go_wp2
  go_ret
  exact ⟨rfl, hbw⟩
theorem notMay_pred (w : World) : PredBelow Try.prog 37 #[] (fun x : RuleV => .agg x.enc.toArray) (fun r => !mayB r) w := fun W r hb =>
  (notMay_any r W).mono fun _ _ ⟨he, hb'⟩ => ⟨he, hb.trans (hb'.mono hb.size)⟩

/-- slices.IndexFunc over rules, at any length. -/
theorem indexRule_any (L : List RuleV) (v : Value) (p : RuleV → Bool) (g : Nat) (lb : Array Value) (w : World) (eg : ∀ args w, (callFunc g args).run Try.prog w = .ok (.enter g args) w)
    (hp : PredBelow Try.prog g lb (fun x : RuleV => .agg x.enc.toArray) p w) (h : Rd w w.heap.size 10 v L.length (rcells L)) (hlen : L.length ≤ 9223372036854775807) :
    Calls Try.prog 34 #[v, .func (.func g) #[] lb] w fun e w' => e = .returned (.int .i64 (idxP p L)) ∧ Below w.heap.size w w' := by
  by_cases h0 : L.length = 0
  · obtain ⟨A, c, rfl, hc⟩ := h.form
    have e1 : L = [] := List.eq_nil_of_length_eq_zero h0
    subst e1
    clear hp h eg
    go_enter Try.func34, Try.ntmps34
    go_wp2
    refine wp_loop_rounds 1 ?_
    rw [rounds_succ]
    go_wp2
    go_ret
    exact ⟨rfl, Below.refl _ _⟩
  · obtain ⟨b, off, c, rfl, hc, hbB, hcell⟩ := h.pos (by omega)
    have := AnyQ.slices_IndexFunc Try.indexRule 10 Try.isAgg47 Try.sizeOf47 RuleV.enc rule_len p g lb eg b off L.length c L w hp (Nat.le_refl _) hlen hbB (Rd.cells rule_len hcell)
    rw [List.take_length] at this
    exact this
/-- slices.ContainsFunc over rules, at any length. -/
theorem containsRule_any (L : List RuleV) (v : Value) (p : RuleV → Bool) (g : Nat) (lb : Array Value) (w : World) (eg : ∀ args w, (callFunc g args).run Try.prog w = .ok (.enter g args) w)
    (hp : PredBelow Try.prog g lb (fun x : RuleV => .agg x.enc.toArray) p w) (h : Rd w w.heap.size 10 v L.length (rcells L)) (hlen : L.length ≤ 9223372036854775807) :
    Calls Try.prog 29 #[v, .func (.func g) #[] lb] w fun e w' => e = .returned (.bool (L.any p)) ∧ Below w.heap.size w w' := by
  by_cases h0 : L.length = 0
  · obtain ⟨A, c, rfl, hc⟩ := h.form
    have e1 : L = [] := List.eq_nil_of_length_eq_zero h0
    subst e1
    have hi := indexRule_any [] _ p g lb w eg hp h (by simp)
    have HI := Lib.hid hi
    clear hi hp h eg
    go_enter Try.func29, Try.ntmps29
    go_wp2_with fail
    refine HI.out.mono ?_
    rintro e w1 ⟨rfl, hb⟩
    have hm : (0 : Int) ≤ idxP p [] ↔ False := by rw [idxP_nil]; decide
    go_wp2
    go_ret
    exact ⟨ret_bool (by simp), hb⟩
  · obtain ⟨b, off, c, rfl, hc, hbB, hcell⟩ := h.pos (by omega)
    have := AnyQ.slices_ContainsFunc Try.containsRule 10 Try.isAgg47 Try.sizeOf47 RuleV.enc rule_len p g lb eg b off L.length c L w hp (Nat.le_refl _) hlen hbB (Rd.cells rule_len hcell)
    rw [List.take_length] at this
    exact this

/-- The refusal of a filter. -/
def filtE (L : List RuleV) : Int := if 256 < L.length then 121 else if L.any (fun r => !mayB r) then 121 else 0
theorem filtE_1 {L : List RuleV} (h : 256 < L.length) : filtE L = 121 := if_pos h
theorem filtE_2 {L : List RuleV} (h : ¬ 256 < L.length) (h1 : L.any (fun r => !mayB r) = true) : filtE L = 121 := by unfold filtE; rw [if_neg h, if_pos h1]
theorem filtE_3 {L : List RuleV} (h : ¬ 256 < L.length) (h1 : L.any (fun r => !mayB r) = false) : filtE L = 0 := by unfold filtE; rw [if_neg h, if_neg (by simp [h1])]

set_option maxHeartbeats 400000 in
theorem filtCheck_any (nm : ByteArray) (L : List RuleV) (v : Value) (w : World) (h : Rd w w.heap.size 10 v L.length (rcells L)) :
    Calls Try.prog 14 #[.agg #[.string nm, v]] w fun e w' => e = .returned (.int .i64 (filtE L)) ∧ Below w.heap.size w w' := by
  have hW : Below w.heap.size w (w.alloc (.cells #[.string nm, v] 51)) := below1 w _
  have h' := (h.below hW).mono hW.size
  obtain ⟨A, c, rfl, hc⟩ := h.form
  by_cases h1 : 256 < L.length
  · have hE := Lib.hid (filtE_1 h1)
    have h2 : (256 : Int) < (L.length : Int) := by omega
    clear h h'
    go_enter Try.func14, Try.ntmps14
    go_wp2
    go_ret
    exact ⟨ret_int hE.out.symm, hW⟩
  · have h2 : ¬ (256 : Int) < (L.length : Int) := by omega
    have hcon := Lib.hid (containsRule_any L _ (fun r => !mayB r) 37 #[] _ (enters_of Try.func37 (by kernel_rfl) rfl) (notMay_pred _) h' (by omega))
    clear h h'
    by_cases h3 : L.any (fun r => !mayB r) = true
    · have hE := Lib.hid (filtE_2 h1 h3)
      have H3 := Lib.hid h3
      clear h3 h1
      generalize L.any (fun r => !mayB r) = B at *
      go_enter Try.func14, Try.ntmps14
      go_wp2_with fail
      refine hcon.out.mono ?_
      rintro e w1 ⟨rfl, hb⟩
      have hB := H3.out
      have hbw := below_call hW hb
      go_wp2
      go_ret
      exact ⟨ret_int hE.out.symm, hbw⟩
    · have h3' : L.any (fun r => !mayB r) = false := by simpa using h3
      have hE := Lib.hid (filtE_3 h1 h3')
      have H3 := Lib.hid h3'
      clear h3 h3' h1
      generalize L.any (fun r => !mayB r) = B at *
      go_enter Try.func14, Try.ntmps14
      go_wp2_with fail
      refine hcon.out.mono ?_
      rintro e w1 ⟨rfl, hb⟩
      have hB := H3.out
      have hbw := below_call hW hb
      go_wp2
      go_ret
      exact ⟨ret_int hE.out.symm, hbw⟩

end Go.Proofs.Ytcchiagclhkieaa

/-
  Walks over the filter's layer: whole filters: the reference's Check, Decides.
-/
namespace Go.Proofs.Ytcchiagclhkieaa
open Go Go.RowKit Go.Sort

theorem rcell {L : List RuleV} {k i : Nat} {r : RuleV} {v : Value} (h : L[k]? = some r) (hv : r.enc[i]? = some v) : (rcells L)[k * 10 + i]? = some v := flat_get RuleV.enc 10 rule_len L k i r v h hv

end Go.Proofs.Ytcchiagclhkieaa

/-
  What a rule asks of a space (written by wip/gen/genfr1.py).
-/
namespace Go.Proofs.Ytcchiagclhkieaa
open Go Go.RowKit Go.ChangeMaps Go.MapKept Go.Maps Go.Lib Go.Sort

/-- One number to another one, as a span. -/
def spanOf (lo hi : Nat) (h1 : lo < 4294967296) (h2 : hi < 4294967296) : SpanV := ⟨lo, hi, by omega, by omega⟩
theorem formOf_one (x : SpanV) (h : x.lo ≤ x.hi) : formOf [x] = [x] := theSet_eq (by simpa [NF] using h) fun _ => rfl
theorem numsF_one (a n M : Nat) (x : SpanV) : numsF a n M [x] = spanF a n x.lo.toNat (min x.hi.toNat M) := funext fun s => by simp [numsF]
theorem numsF_wid (a n M : Nat) (x : SpanV) (h : a + n ≤ 104) (hn : n ≤ 32) (k : Nat) : Wid (numsF a n M ([x].take k)) 576 := by
  cases k with
  | zero => exact (Wid.seg (a := 0) (b := 0) (k := 1) (Hangs.const false 0 0) (by omega) (fun v => CutLe.const false v)).mono (by omega)
  | succ k =>
    rw [List.take_of_length_le (by simp), numsF_one]
    exact spanF_wid _ _ _ _ h hn
/-- What a rule asks, one behind the other. -/
def askF (r : RuleV) : Nat → Fun
  | 0 => bitsF 0 0 r.sn.toNat (r.sa.toNat / 2 ^ (32 - r.sn.toNat)) r.sn.toNat
  | 1 => bitsF 32 0 r.dn.toNat (r.da.toNat / 2 ^ (32 - r.dn.toNat)) r.dn.toNat
  | 2 => spanF 72 16 r.sl.toNat r.sh.toNat
  | 3 => spanF 88 16 r.dl.toNat r.dh.toNat
  | _ => spanF 64 8 r.proto.toNat r.proto.toNat
structure RuleOk (r : RuleV) : Prop where
  p : -1 ≤ r.proto ∧ r.proto ≤ 255
  s : chk r.sa r.sn = 0 ∧ 0 ≤ r.sn ∧ r.sn ≤ 32
  d : chk r.da r.dn = 0 ∧ 0 ≤ r.dn ∧ r.dn ≤ 32
  sp : r.sl ≤ r.sh ∧ r.sh ≤ 65535
  dp : r.dl ≤ r.dh ∧ r.dh ≤ 65535
theorem chk_bits {a n : Int} (h : chk a n = 0) : 0 ≤ n ∧ n ≤ 32 := by
  unfold chk at h
  split at h
  · cases h
  · omega
theorem RuleOk.of {r : RuleV} (h : mayB r = true) : RuleOk r := by
  unfold mayB portsB at h
  simp only [Bool.and_eq_true, decide_eq_true_eq] at h
  obtain ⟨⟨⟨⟨⟨h1, h2⟩, h3⟩, h4⟩, h5⟩, h6⟩ := h
  exact ⟨⟨h1, h2⟩, ⟨h3, chk_bits h3⟩, ⟨h4, chk_bits h4⟩, h5, h6⟩
/-- The boxes that a rule's asks see. -/
structure AskBox (w : World) (S sb rb : Nat) (r : RuleV) : Prop where
  s : w.heap[sb]? = some (.cells #[.pointer (some ⟨S, 0, none⟩)] 22 (0, 0))
  r : w.heap[rb]? = some (.cells #[.bool r.permit, .int .i64 r.proto, .int .u32 r.sa, .int .i64 r.sn, .int .u32 r.da, .int .i64 r.dn, .int .u32 r.sl, .int .u32 r.sh, .int .u32 r.dl, .int .u32 r.dh] 47 (0, 0))
section
variable {w : World} {B S km : Nat} {A : Blks} {Mo : Nat} {σ : Sg}
set_option maxRecDepth 100000
set_option maxHeartbeats 2000000
theorem ask0_yes (h : SpOk w B S km A Mo σ) (r : RuleV) (ok : RuleOk r) (sb rb : Nat) (hb : AskBox w S sb rb r) (hl : σ.N.length + 1216 ≤ 2147483647) :
    Calls Try.prog 60 #[.pointer (some ⟨sb, 0, none⟩), .pointer (some ⟨rb, 0, none⟩)] w (SpRes w B S km A Mo σ (askF r 0) 1216 1216) := by
  have c0 := cell0 hb.s
  have c1 : w.cell? ⟨rb, 2, none⟩ = some (.int .u32 r.sa) := cell_of_row _ _ 2 _ _ (0, 0) hb.r
  have c2 : w.cell? ⟨rb, 3, none⟩ = some (.int .i64 r.sn) := cell_of_row _ _ 3 _ _ (0, 0) hb.r
  obtain ⟨a, ha⟩ : ∃ a : Nat, r.sa = a := ⟨r.sa.toNat, by have := r.hsa; omega⟩
  obtain ⟨n, hn⟩ : ∃ n : Nat, r.sn = n := ⟨r.sn.toNat, by have := ok.s.2.1; omega⟩
  have hck := ok.s.1
  have hnb := ok.s.2
  have hab := r.hsa
  have hF : askF r 0 = bitsF (32 * 0) 0 n (a / 2 ^ (32 - n)) n := by show bitsF 0 0 r.sn.toNat (r.sa.toNat / 2 ^ (32 - r.sn.toNat)) r.sn.toNat = _; rw [ha, hn]; rfl
  rw [hF]
  rw [ha, hn] at hck
  rw [ha] at c1 hab
  rw [hn] at c2 hnb
  have HP := Lib.hid (show Calls Try.prog 61 #[.pointer (some ⟨S, 0, none⟩), .int .i64 0, .agg #[.int .u32 a, .int .i64 n]] w (SpRes w B S km A Mo σ (bitsF (32 * 0) 0 n (a / 2 ^ (32 - n)) n) (3 * n) (3 * n)) from prefix_yes h 0 a n (by omega) (by omega) (by omega) hck (by omega))
  have hn2 : 3 * n ≤ 1216 := by omega
  clear h hb hF ha hn hck ok
  go_enter Try.func60, Try.ntmps60
  go_wp2_with ((with_reducible refine HP.out.mono ?_); rintro e W2 hr; have HR := Lib.hid (hr.mono hn2 hn2); obtain ⟨q, c, rfl⟩ := hr.form; clear hr)
  go_ret2
  exact HR.out
theorem ask1_yes (h : SpOk w B S km A Mo σ) (r : RuleV) (ok : RuleOk r) (sb rb : Nat) (hb : AskBox w S sb rb r) (hl : σ.N.length + 1216 ≤ 2147483647) :
    Calls Try.prog 62 #[.pointer (some ⟨sb, 0, none⟩), .pointer (some ⟨rb, 0, none⟩)] w (SpRes w B S km A Mo σ (askF r 1) 1216 1216) := by
  have c0 := cell0 hb.s
  have c1 : w.cell? ⟨rb, 4, none⟩ = some (.int .u32 r.da) := cell_of_row _ _ 4 _ _ (0, 0) hb.r
  have c2 : w.cell? ⟨rb, 5, none⟩ = some (.int .i64 r.dn) := cell_of_row _ _ 5 _ _ (0, 0) hb.r
  obtain ⟨a, ha⟩ : ∃ a : Nat, r.da = a := ⟨r.da.toNat, by have := r.hda; omega⟩
  obtain ⟨n, hn⟩ : ∃ n : Nat, r.dn = n := ⟨r.dn.toNat, by have := ok.d.2.1; omega⟩
  have hck := ok.d.1
  have hnb := ok.d.2
  have hab := r.hda
  have hF : askF r 1 = bitsF (32 * 1) 0 n (a / 2 ^ (32 - n)) n := by show bitsF 32 0 r.dn.toNat (r.da.toNat / 2 ^ (32 - r.dn.toNat)) r.dn.toNat = _; rw [ha, hn]; rfl
  rw [hF]
  rw [ha, hn] at hck
  rw [ha] at c1 hab
  rw [hn] at c2 hnb
  have HP := Lib.hid (show Calls Try.prog 61 #[.pointer (some ⟨S, 0, none⟩), .int .i64 1, .agg #[.int .u32 a, .int .i64 n]] w (SpRes w B S km A Mo σ (bitsF (32 * 1) 0 n (a / 2 ^ (32 - n)) n) (3 * n) (3 * n)) from prefix_yes h 1 a n (by omega) (by omega) (by omega) hck (by omega))
  have hn2 : 3 * n ≤ 1216 := by omega
  clear h hb hF ha hn hck ok
  go_enter Try.func62, Try.ntmps62
  go_wp2_with ((with_reducible refine HP.out.mono ?_); rintro e W2 hr; have HR := Lib.hid (hr.mono hn2 hn2); obtain ⟨q, c, rfl⟩ := hr.form; clear hr)
  go_ret2
  exact HR.out
theorem ask2_yes (h : SpOk w B S km A Mo σ) (r : RuleV) (ok : RuleOk r) (sb rb : Nat) (hb : AskBox w S sb rb r) (hl : σ.N.length + 1216 ≤ 2147483647) :
    Calls Try.prog 63 #[.pointer (some ⟨sb, 0, none⟩), .pointer (some ⟨rb, 0, none⟩)] w (SpRes w B S km A Mo σ (askF r 2) 1216 1216) := by
  have c0 := cell0 hb.s
  have c1 : w.cell? ⟨rb, 6, none⟩ = some (.int .u32 r.sl) := cell_of_row _ _ 6 _ _ (0, 0) hb.r
  have c2 : w.cell? ⟨rb, 7, none⟩ = some (.int .u32 r.sh) := cell_of_row _ _ 7 _ _ (0, 0) hb.r
  obtain ⟨lo, hlo⟩ : ∃ a : Nat, r.sl = a := ⟨r.sl.toNat, by have := r.hsl; omega⟩
  obtain ⟨hi, hhi⟩ : ∃ a : Nat, r.sh = a := ⟨r.sh.toNat, by have := r.hsh; omega⟩
  have hbd := ok.sp
  have hF : askF r 2 = spanF 72 16 lo (min hi 65535) := by show spanF 72 16 r.sl.toNat r.sh.toNat = _; rw [hlo, hhi, Int.toNat_natCast, Int.toNat_natCast, Nat.min_eq_left (by omega)]
  rw [hF]
  rw [hlo] at c1
  rw [hhi] at c2
  rw [hlo, hhi] at hbd
  have l1 : lo < 4294967296 := by omega
  have l2 : hi < 4294967296 := by omega
  have hbw := below1 w (.cells #[.int .u32 lo, .int .u32 hi] 43)
  have hrd : Rd (w.alloc (.cells #[.int .u32 lo, .int .u32 hi] 43)) (w.alloc (.cells #[.int .u32 lo, .int .u32 hi] 43)).heap.size 2 (.slice (some ⟨w.heap.size, 0, none⟩) 1 1) 1 (scells [spanOf lo hi l1 l2]) := Rd.of_blk (blk1 w (.cells #[.int .u32 lo, .int .u32 hi] 43)) (Nat.le_refl _) rfl
  have HS := Lib.hid ((h.below hbw))
  have HK := Lib.hid (h.kept hbw)
  have hnum := numbers3_yes HS.out [spanOf lo hi l1 l2] _ hrd (by simp) [spanOf lo hi l1 l2] [] (by rw [List.append_nil]; exact formOf_one _ (by show (lo : Int) ≤ hi; omega)) (by intro x hx; simp at hx; subst hx; show (lo : Int) ≤ 65535; omega) (.inl rfl) 576 (fun k _ => numsF_wid 72 16 65535 _ (by omega) (by omega) k) (by show _ + 1 * _ ≤ _; omega)
  rw [numsF_one] at hnum
  have HN := Lib.hid (show Calls Try.prog 64 #[.pointer (some ⟨S, 0, none⟩), .int .i64 3, .slice (some ⟨w.heap.size, 0, none⟩) 1 1] (w.alloc (.cells #[.int .u32 lo, .int .u32 hi] 43)) (SpRes (w.alloc (.cells #[.int .u32 lo, .int .u32 hi] 43)) B S km A Mo σ (spanF 72 16 lo (min hi 65535)) (1 * (576 + 640)) (1 * (576 + 640))) from hnum)
  clear h hb hF hlo hhi ok hbd hbw hrd hnum HS
  go_enter Try.func63, Try.ntmps63
  go_wp2_with ((with_reducible refine HN.out.mono ?_); rintro e W2 hr; have HR := Lib.hid ((hr.after (To.refl σ) HK.out).mono (show 0 + 1 * (576 + 640) ≤ 1216 by omega) (show 0 + 1 * (576 + 640) ≤ 1216 by omega)); obtain ⟨q, c, rfl⟩ := hr.form; clear hr)
  go_ret2
  exact HR.out
theorem ask3_yes (h : SpOk w B S km A Mo σ) (r : RuleV) (ok : RuleOk r) (sb rb : Nat) (hb : AskBox w S sb rb r) (hl : σ.N.length + 1216 ≤ 2147483647) :
    Calls Try.prog 65 #[.pointer (some ⟨sb, 0, none⟩), .pointer (some ⟨rb, 0, none⟩)] w (SpRes w B S km A Mo σ (askF r 3) 1216 1216) := by
  have c0 := cell0 hb.s
  have c1 : w.cell? ⟨rb, 8, none⟩ = some (.int .u32 r.dl) := cell_of_row _ _ 8 _ _ (0, 0) hb.r
  have c2 : w.cell? ⟨rb, 9, none⟩ = some (.int .u32 r.dh) := cell_of_row _ _ 9 _ _ (0, 0) hb.r
  obtain ⟨lo, hlo⟩ : ∃ a : Nat, r.dl = a := ⟨r.dl.toNat, by have := r.hdl; omega⟩
  obtain ⟨hi, hhi⟩ : ∃ a : Nat, r.dh = a := ⟨r.dh.toNat, by have := r.hdh; omega⟩
  have hbd := ok.dp
  have hF : askF r 3 = spanF 88 16 lo (min hi 65535) := by show spanF 88 16 r.dl.toNat r.dh.toNat = _; rw [hlo, hhi, Int.toNat_natCast, Int.toNat_natCast, Nat.min_eq_left (by omega)]
  rw [hF]
  rw [hlo] at c1
  rw [hhi] at c2
  rw [hlo, hhi] at hbd
  have l1 : lo < 4294967296 := by omega
  have l2 : hi < 4294967296 := by omega
  have hbw := below1 w (.cells #[.int .u32 lo, .int .u32 hi] 43)
  have hrd : Rd (w.alloc (.cells #[.int .u32 lo, .int .u32 hi] 43)) (w.alloc (.cells #[.int .u32 lo, .int .u32 hi] 43)).heap.size 2 (.slice (some ⟨w.heap.size, 0, none⟩) 1 1) 1 (scells [spanOf lo hi l1 l2]) := Rd.of_blk (blk1 w (.cells #[.int .u32 lo, .int .u32 hi] 43)) (Nat.le_refl _) rfl
  have HS := Lib.hid ((h.below hbw))
  have HK := Lib.hid (h.kept hbw)
  have hnum := numbers4_yes HS.out [spanOf lo hi l1 l2] _ hrd (by simp) [spanOf lo hi l1 l2] [] (by rw [List.append_nil]; exact formOf_one _ (by show (lo : Int) ≤ hi; omega)) (by intro x hx; simp at hx; subst hx; show (lo : Int) ≤ 65535; omega) (.inl rfl) 576 (fun k _ => numsF_wid 88 16 65535 _ (by omega) (by omega) k) (by show _ + 1 * _ ≤ _; omega)
  rw [numsF_one] at hnum
  have HN := Lib.hid (show Calls Try.prog 64 #[.pointer (some ⟨S, 0, none⟩), .int .i64 4, .slice (some ⟨w.heap.size, 0, none⟩) 1 1] (w.alloc (.cells #[.int .u32 lo, .int .u32 hi] 43)) (SpRes (w.alloc (.cells #[.int .u32 lo, .int .u32 hi] 43)) B S km A Mo σ (spanF 88 16 lo (min hi 65535)) (1 * (576 + 640)) (1 * (576 + 640))) from hnum)
  clear h hb hF hlo hhi ok hbd hbw hrd hnum HS
  go_enter Try.func65, Try.ntmps65
  go_wp2_with ((with_reducible refine HN.out.mono ?_); rintro e W2 hr; have HR := Lib.hid ((hr.after (To.refl σ) HK.out).mono (show 0 + 1 * (576 + 640) ≤ 1216 by omega) (show 0 + 1 * (576 + 640) ≤ 1216 by omega)); obtain ⟨q, c, rfl⟩ := hr.form; clear hr)
  go_ret2
  exact HR.out
theorem ask4_yes (h : SpOk w B S km A Mo σ) (r : RuleV) (ok : RuleOk r) (hp : 0 ≤ r.proto) (sb rb : Nat) (hb : AskBox w S sb rb r) (hl : σ.N.length + 1216 ≤ 2147483647) :
    Calls Try.prog 66 #[.pointer (some ⟨sb, 0, none⟩), .pointer (some ⟨rb, 0, none⟩)] w (SpRes w B S km A Mo σ (askF r 4) 1216 1216) := by
  have c0 := cell0 hb.s
  have c1 : w.cell? ⟨rb, 1, none⟩ = some (.int .i64 r.proto) := cell_of_row _ _ 1 _ _ (0, 0) hb.r
  obtain ⟨lo, hlo⟩ : ∃ a : Nat, r.proto = a := ⟨r.proto.toNat, by omega⟩
  have hbd := ok.p
  have hF : askF r 4 = spanF 64 8 lo (min lo 255) := by show spanF 64 8 r.proto.toNat r.proto.toNat = _; rw [hlo, Int.toNat_natCast, Nat.min_eq_left (by omega)]
  rw [hF]
  rw [hlo] at c1 hbd
  have l1 : lo < 4294967296 := by omega
  have l2 : (lo : Int) ≤ 255 := by omega
  have hbw := below1 w (.cells #[.int .u32 lo, .int .u32 lo] 43)
  have hrd : Rd (w.alloc (.cells #[.int .u32 lo, .int .u32 lo] 43)) (w.alloc (.cells #[.int .u32 lo, .int .u32 lo] 43)).heap.size 2 (.slice (some ⟨w.heap.size, 0, none⟩) 1 1) 1 (scells [spanOf lo lo l1 l1]) := Rd.of_blk (blk1 w (.cells #[.int .u32 lo, .int .u32 lo] 43)) (Nat.le_refl _) rfl
  have HS := Lib.hid ((h.below hbw))
  have HK := Lib.hid (h.kept hbw)
  have hnum := numbers2_yes HS.out [spanOf lo lo l1 l1] _ hrd (by simp) [spanOf lo lo l1 l1] [] (by rw [List.append_nil]; exact formOf_one _ (by show (lo : Int) ≤ lo; omega)) (by intro x hx; simp at hx; subst hx; show (lo : Int) ≤ 255; omega) (.inl rfl) 576 (fun k _ => numsF_wid 64 8 255 _ (by omega) (by omega) k) (by show _ + 1 * _ ≤ _; omega)
  rw [numsF_one] at hnum
  have HN := Lib.hid (show Calls Try.prog 64 #[.pointer (some ⟨S, 0, none⟩), .int .i64 2, .slice (some ⟨w.heap.size, 0, none⟩) 1 1] (w.alloc (.cells #[.int .u32 lo, .int .u32 lo] 43)) (SpRes (w.alloc (.cells #[.int .u32 lo, .int .u32 lo] 43)) B S km A Mo σ (spanF 64 8 lo (min lo 255)) (1 * (576 + 608)) (1 * (576 + 608))) from hnum)
  clear h hb hF hlo ok hbd hbw hrd hnum HS hp
  go_enter Try.func66, Try.ntmps66
  go_wp2_with ((with_reducible refine HN.out.mono ?_); rintro e W2 hr; have HR := Lib.hid ((hr.after (To.refl σ) HK.out).mono (show 0 + 1 * (576 + 608) ≤ 1216 by omega) (show 0 + 1 * (576 + 608) ≤ 1216 by omega)); obtain ⟨q, c, rfl⟩ := hr.form; clear hr)
  go_ret2
  exact HR.out
end
end Go.Proofs.Ytcchiagclhkieaa

/-
  A rule's set (written by wip/gen/genfr2.py).
-/
namespace Go.Proofs.Ytcchiagclhkieaa
open Go Go.RowKit Go.ChangeMaps Go.MapKept Go.Maps Go.Lib Go.Sort

/-- The first k of a rule's asks. -/
def ruleK (r : RuleV) : Nat → Fun
  | 0 => fun _ => true
  | k + 1 => fun s => ruleK r k s && askF r k s
def asksN (r : RuleV) : Nat := if 0 ≤ r.proto then 5 else 4
def ruleF (r : RuleV) : Fun := ruleK r (asksN r)
theorem SetF.lit {F : Fun} {x : Nat} (hx : x % 2 = 0) (b : Bool) (h : SetF F) : SetF (litF x b F) := fun v hv s c => by
  unfold litF
  rw [put_other (by omega), h v hv]
theorem SetF.step {F : Fun} {x : Nat} (hx : x % 2 = 0) (up b : Bool) (h : SetF F) : SetF (stepF x up b F) := fun v hv s c => by
  unfold stepF
  rw [put_other (by omega), h v hv]
theorem SetF.const (b : Bool) : SetF (fun _ => b) := fun v _ => Free.const b v
theorem SetF.op2 {F G : Fun} (o : Bool → Bool → Bool) (a : SetF F) (b : SetF G) : SetF (fun s => o (F s) (G s)) := fun v hv => (a v hv).op2 o (b v hv)
theorem SetF.op1 {F : Fun} (o : Bool → Bool) (a : SetF F) : SetF (fun s => o (F s)) := fun v hv => (a v hv).op1 o
theorem bitsF_set (a n v : Nat) : ∀ m, SetF (bitsF a 0 n v m)
  | 0 => SetF.const true
  | m + 1 => SetF.lit (by omega) _ (bitsF_set a n v m)
theorem reachF_set (a n v : Nat) (up : Bool) : ∀ m, SetF (reachF a n v up m)
  | 0 => SetF.const true
  | m + 1 => SetF.step (by omega) _ _ (reachF_set a n v up m)
theorem spanF_set (a n lo hi : Nat) : SetF (spanF a n lo hi) := (reachF_set a n lo true n).op2 (fun x y => x && y) (reachF_set a n hi false n)
theorem askF_set (r : RuleV) : ∀ k, SetF (askF r k)
  | 0 => bitsF_set _ _ _ _
  | 1 => bitsF_set _ _ _ _
  | 2 => spanF_set _ _ _ _
  | 3 => spanF_set _ _ _ _
  | _ + 4 => spanF_set _ _ _ _
theorem ruleK_set (r : RuleV) : ∀ k, SetF (ruleK r k)
  | 0 => SetF.const true
  | k + 1 => (ruleK_set r k).op2 (fun x y => x && y) (askF_set r k)
theorem Try.infoFn0 : (Try.prog.info? 113).map (fun i => (i.zero, i.size, i.bytes)) = some (some .nilFunc, 1, 8) := by kernel_rfl
def askV (sb rb : Nat) : Nat → Value
  | 0 => .func (.func 60) #[] #[.pointer (some ⟨sb, 0, none⟩), .pointer (some ⟨rb, 0, none⟩)]
  | 1 => .func (.func 62) #[] #[.pointer (some ⟨sb, 0, none⟩), .pointer (some ⟨rb, 0, none⟩)]
  | 2 => .func (.func 63) #[] #[.pointer (some ⟨sb, 0, none⟩), .pointer (some ⟨rb, 0, none⟩)]
  | 3 => .func (.func 65) #[] #[.pointer (some ⟨sb, 0, none⟩), .pointer (some ⟨rb, 0, none⟩)]
  | _ => .func (.func 66) #[] #[.pointer (some ⟨sb, 0, none⟩), .pointer (some ⟨rb, 0, none⟩)]
section
variable {w : World} {B S km : Nat} {A : Blks} {Mo : Nat} {σ : Sg}
set_option maxRecDepth 100000
set_option maxHeartbeats 4000000
/-- An ask, whichever it is. -/
theorem ask_yes (r : RuleV) (ok : RuleOk r) (sb rb k : Nat) (hk : k < asksN r) : ∃ fid, askV sb rb k = .func (.func fid) #[] #[.pointer (some ⟨sb, 0, none⟩), .pointer (some ⟨rb, 0, none⟩)] ∧ (∀ (args : Array Value) (w : World), (callFunc fid args).run Try.prog w = .ok (.enter fid args) w) ∧
    ∀ (w : World) (τ : Sg), SpOk w B S km A Mo τ → AskBox w S sb rb r → τ.N.length + 1216 ≤ 2147483647 → Calls Try.prog fid #[.pointer (some ⟨sb, 0, none⟩), .pointer (some ⟨rb, 0, none⟩)] w (SpRes w B S km A Mo τ (askF r k) 1216 1216) := by
  have h5 : asksN r ≤ 5 := by unfold asksN; split <;> omega
  obtain rfl | rfl | rfl | rfl | rfl : k = 0 ∨ k = 1 ∨ k = 2 ∨ k = 3 ∨ k = 4 := by omega
  · exact ⟨_, rfl, fun _ _ => by go_simp, fun w τ h hb hl => ask0_yes h r ok sb rb hb hl⟩
  · exact ⟨_, rfl, fun _ _ => by go_simp, fun w τ h hb hl => ask1_yes h r ok sb rb hb hl⟩
  · exact ⟨_, rfl, fun _ _ => by go_simp, fun w τ h hb hl => ask2_yes h r ok sb rb hb hl⟩
  · exact ⟨_, rfl, fun _ _ => by go_simp, fun w τ h hb hl => ask3_yes h r ok sb rb hb hl⟩
  · have hp : 0 ≤ r.proto := by unfold asksN at hk; split at hk <;> omega
    exact ⟨_, rfl, fun _ _ => by go_simp, fun w τ h hb hl => ask4_yes h r ok hp sb rb hb hl⟩
theorem rule_yes (h : SpOk w B S km A Mo σ) (r : RuleV) (ok : RuleOk r) (K : Nat) (hK : ∀ k, k ≤ 5 → Wid (ruleK r k) K) (hl : σ.N.length + 5 * (1216 + K) ≤ 2147483647) :
    Calls Try.prog 31 #[.pointer (some ⟨S, 0, none⟩), .agg #[.bool r.permit, .int .i64 r.proto, .int .u32 r.sa, .int .i64 r.sn, .int .u32 r.da, .int .i64 r.dn, .int .u32 r.sl, .int .u32 r.sh, .int .u32 r.dl, .int .u32 r.dh]] w
      (SpRes w B S km A Mo σ (ruleF r) (5 * (1216 + K)) (5 * (1216 + K))) := by
  obtain ⟨i0, hif, hz0, hz1, hz2⟩ := info_parts Try.infoFn0
  have hW : (w.alloc (.cells #[.pointer (some ⟨S, 0, none⟩)] 22)).alloc (.cells #[.bool r.permit, .int .i64 r.proto, .int .u32 r.sa, .int .i64 r.sn, .int .u32 r.da, .int .i64 r.dn, .int .u32 r.sl, .int .u32 r.sh, .int .u32 r.dl, .int .u32 r.dh] 47) = (w.alloc (.cells #[.pointer (some ⟨S, 0, none⟩)] 22)).alloc (.cells #[.bool r.permit, .int .i64 r.proto, .int .u32 r.sa, .int .i64 r.sn, .int .u32 r.da, .int .i64 r.dn, .int .u32 r.sl, .int .u32 r.sh, .int .u32 r.dl, .int .u32 r.dh] 47) := rfl
  have hbw := below2 w (.cells #[.pointer (some ⟨S, 0, none⟩)] 22) (.cells #[.bool r.permit, .int .i64 r.proto, .int .u32 r.sa, .int .i64 r.sn, .int .u32 r.da, .int .i64 r.dn, .int .u32 r.sl, .int .u32 r.sh, .int .u32 r.dl, .int .u32 r.dh] 47)
  have hs1 : (w.alloc (.cells #[.pointer (some ⟨S, 0, none⟩)] 22)).heap.size = w.heap.size + 1 := by simp
  have hks := blk_below (below1 (w.alloc (.cells #[.pointer (some ⟨S, 0, none⟩)] 22)) (.cells #[.bool r.permit, .int .i64 r.proto, .int .u32 r.sa, .int .i64 r.sn, .int .u32 r.da, .int .i64 r.dn, .int .u32 r.sl, .int .u32 r.sh, .int .u32 r.dl, .int .u32 r.dh] 47)) (blk1 w (.cells #[.pointer (some ⟨S, 0, none⟩)] 22))
  have hkr := blk1 (w.alloc (.cells #[.pointer (some ⟨S, 0, none⟩)] 22)) (.cells #[.bool r.permit, .int .i64 r.proto, .int .u32 r.sa, .int .i64 r.sn, .int .u32 r.da, .int .i64 r.dn, .int .u32 r.sl, .int .u32 r.sh, .int .u32 r.dl, .int .u32 r.dh] 47)
  rw [hs1] at hkr
  have HSZ : Hid (((w.alloc (.cells #[.pointer (some ⟨S, 0, none⟩)] 22)).alloc (.cells #[.bool r.permit, .int .i64 r.proto, .int .u32 r.sa, .int .i64 r.sn, .int .u32 r.da, .int .i64 r.dn, .int .u32 r.sl, .int .u32 r.sh, .int .u32 r.dl, .int .u32 r.dh] 47)).heap.size = w.heap.size + 1 + 1) := Lib.hid (by simp)
  have HAB := Lib.hid (show AskBox _ S w.heap.size (w.heap.size + 1) r from ⟨hks, hkr⟩)
  have HF1 := Lib.hid (h.sp.ar.foreign_new hbw (Nat.le_refl _) (lt_of_block hks))
  have HF2 := Lib.hid (h.sp.ar.foreign_new hbw (show w.heap.size ≤ w.heap.size + 1 by omega) (lt_of_block hkr))
  have HNE : Hid (w.heap.size ≠ km ∧ w.heap.size + 1 ≠ km) := Lib.hid (by have := h.sp.fk.1; omega)
  have HS := Lib.hid (h.below hbw)
  have HK := Lib.hid (h.kept hbw)
  have HWK := Lib.hid hK
  have HOK := Lib.hid ok
  have c1 : ((w.alloc (.cells #[.pointer (some ⟨S, 0, none⟩)] 22)).alloc (.cells #[.bool r.permit, .int .i64 r.proto, .int .u32 r.sa, .int .i64 r.sn, .int .u32 r.da, .int .i64 r.dn, .int .u32 r.sl, .int .u32 r.sh, .int .u32 r.dl, .int .u32 r.dh] 47)).cell? ⟨w.heap.size + 1, 1, none⟩ = some (.int .i64 r.proto) := cell_of_row _ _ 1 _ _ (0, 0) hkr
  clear h hbw hks hkr hs1 hK ok hW
  go_enter Try.func31, Try.ntmps31
  go_upto_region 1 with fail
  generalize (w.alloc (.cells #[.pointer (some ⟨S, 0, none⟩)] 22)).alloc (.cells #[.bool r.permit, .int .i64 r.proto, .int .u32 r.sa, .int .i64 r.sn, .int .u32 r.da, .int .i64 r.dn, .int .u32 r.sl, .int .u32 r.sh, .int .u32 r.dl, .int .u32 r.dh] 47) = w0 at *
  have HROW := Lib.hid (show (w0.alloc (.cells #[askV w.heap.size (w.heap.size + 1) 0, askV w.heap.size (w.heap.size + 1) 1, askV w.heap.size (w.heap.size + 1) 2, askV w.heap.size (w.heap.size + 1) 3] 113)).ownsRow w0.heap.size 113 1 (.slice (some ⟨w0.heap.size, 0, none⟩) 4 4) 4 [askV w.heap.size (w.heap.size + 1) 0, askV w.heap.size (w.heap.size + 1) 1, askV w.heap.size (w.heap.size + 1) 2, askV w.heap.size (w.heap.size + 1) 3] from
    World.ownsRow_lit w0 #[askV w.heap.size (w.heap.size + 1) 0, askV w.heap.size (w.heap.size + 1) 1, askV w.heap.size (w.heap.size + 1) 2, askV w.heap.size (w.heap.size + 1) 3] 4 (Nat.le_refl _) (by unfold maxLen; omega) rfl)
  have HB1 := Lib.hid (below1 w0 (.cells #[askV w.heap.size (w.heap.size + 1) 0, askV w.heap.size (w.heap.size + 1) 1, askV w.heap.size (w.heap.size + 1) 2, askV w.heap.size (w.heap.size + 1) 3] 113))
  have hWV : w0.alloc (.cells #[.func (.func 60) #[] #[.pointer (some ⟨w.heap.size, 0, none⟩), .pointer (some ⟨w.heap.size + 1, 0, none⟩)], .func (.func 62) #[] #[.pointer (some ⟨w.heap.size, 0, none⟩), .pointer (some ⟨w.heap.size + 1, 0, none⟩)], .func (.func 63) #[] #[.pointer (some ⟨w.heap.size, 0, none⟩), .pointer (some ⟨w.heap.size + 1, 0, none⟩)], .func (.func 65) #[] #[.pointer (some ⟨w.heap.size, 0, none⟩), .pointer (some ⟨w.heap.size + 1, 0, none⟩)]] 113) = w0.alloc (.cells #[askV w.heap.size (w.heap.size + 1) 0, askV w.heap.size (w.heap.size + 1) 1, askV w.heap.size (w.heap.size + 1) 2, askV w.heap.size (w.heap.size + 1) 3] 113) := rfl
  go_upto_region 2 with fail
  clear hWV
  generalize w0.alloc (.cells #[askV w.heap.size (w.heap.size + 1) 0, askV w.heap.size (w.heap.size + 1) 1, askV w.heap.size (w.heap.size + 1) 2, askV w.heap.size (w.heap.size + 1) 3] 113) = w1 at *
  have d1 : w1.cell? ⟨w.heap.size + 1, 1, none⟩ = some (.int .i64 r.proto) := cell_of_row _ _ 1 _ _ (0, 0) (blk_below HB1.out HAB.out.r)
  clear c1
  by_cases hp : 0 ≤ r.proto
  · have hpi : r.proto ≥ 0 := hp
    have hne : asksN r = 5 := if_pos hp
    have HN := Lib.hid hne
    have hbs := HB1.out.size
    clear hp hne
    go_upto_region 4 with (at_builtin; refine wpList_push2 (v := .slice (some ⟨w0.heap.size, 0, none⟩) 4 4) rfl _ _ 116 rfl 113 i0 _ 1 8 Try.underlying116 hif hz0 hz1 hz2 rfl (by decide) (by decide) [askV w.heap.size (w.heap.size + 1) 4] rfl rfl rfl HROW.out rfl (by intro u hu; simp at hu; subst hu; rfl) (by omega) hbs ?_; intro v2 w2 hown2 hg2 hmv2; obtain ⟨A2, c2, hv2, hA2⟩ := owns_form hown2; subst hv2; have HO2 := Lib.hid hown2; have HA2 := Lib.hid hA2; have HB2 := Lib.hid (below_grown HB1.out hbs hg2 (fun g hg => by have : some w0.heap.size = some g := hg; injection this; omega)); clear hown2 hg2 hmv2 hA2)
    clear HROW hbs
    have HS2 := Lib.hid (HS.out.below HB2.out)
    have HK2 := Lib.hid (HK.out.trans (HS.out.kept HB2.out))
    have HAB2 := Lib.hid (show AskBox w2 S w.heap.size (w.heap.size + 1) r from ⟨blk_below HB2.out HAB.out.s, blk_below HB2.out HAB.out.r⟩)
    have HG2 := Lib.hid (And.intro (((HS.out.kept HB2.out).same _ HF1.out HNE.out.1).2) (((HS.out.kept HB2.out).same _ HF2.out HNE.out.2).2))
    have HBOX : Hid (∀ W, KeptS A km w2 W → AskBox W S w.heap.size (w.heap.size + 1) r) := Lib.hid fun W hW => ⟨(hW.same _ HG2.out.1 HNE.out.1).1.trans HAB2.out.s, (hW.same _ HG2.out.2 HNE.out.2).1.trans HAB2.out.r⟩
    have HCELL : Hid (∀ k, k < 5 → ∃ g, A2 = some ⟨g, 0, none⟩ ∧ ∀ W, KeptS A km w2 W → W.cell? ⟨g, k, none⟩ = some (askV w.heap.size (w.heap.size + 1) k)) := Lib.hid fun k hk => by
      obtain ⟨g, hg⟩ := HA2.out (by omega)
      have hlg := HO2.out.lt g (by rw [hg]; rfl)
      have hgf := HS.out.sp.ar.foreign_new HB2.out hlg.1 hlg.2
      have hgk : g ≠ km := by have := HS.out.sp.fk.1; omega
      refine ⟨g, hg, fun W hW => (World.cell?_of_block (hW.same _ hgf hgk).1).trans ?_⟩
      have ho := HO2.out
      rw [hg] at ho
      refine (ho.cellAt k (by omega)).trans ?_
      obtain rfl | rfl | rfl | rfl | rfl : k = 0 ∨ k = 1 ∨ k = 2 ∨ k = 3 ∨ k = 4 := by omega
      all_goals rfl
    clear HO2 HB2 HA2 HAB HF1 HF2 HSZ HAB2 HG2 HNE HS HK
    go_wp2
    go_loopw [7, 26] (fun f i wr => ∃ k : Nat, i = .int .i64 k ∧ k ≤ 5 ∧ ∃ (q : Nat) (τ : Sg), f = .int .i64 q ∧ Hid (SpOk wr B S km A Mo τ) ∧ Hid (To (k * (1216 + K)) (k * (1216 + K)) σ τ) ∧ Hid (Den τ q (ruleK r k)) ∧ Hid (KeptS A km w2 wr)) (fun _ i _ => 5 - (intOf i).toNat)
    case atStart => exact ⟨0, rfl, by omega, 1, σ, rfl, HS2, Lib.hid (by rw [Nat.zero_mul]; exact To.refl σ), Lib.hid (Den.one HS2.out.ok), Lib.hid (KeptS.refl _ _ _)⟩
    case round =>
      obtain ⟨k, rfl, hk, q, τ, rfl, HSR, HTR, HDR, HKR⟩ := hrel
      by_cases hlt : k < 5
      · have hI : (k : Int) < 5 := by omega
        obtain ⟨g, hge, hcell⟩ := HCELL.out k hlt
        have hcl := hcell wr HKR.out
        obtain ⟨fid, hfv, hen, hcall⟩ := ask_yes (B := B) (S := S) (km := km) (A := A) (Mo := Mo) r HOK.out w.heap.size (w.heap.size + 1) k (by rw [HN.out]; exact hlt)
        rw [hfv] at hcl
        have hm1 : (k + 1) * (1216 + K) ≤ 5 * (1216 + K) := Nat.mul_le_mul_right _ (by omega)
        have hm2 : (k + 1) * (1216 + K) = k * (1216 + K) + (1216 + K) := by rw [Nat.add_mul, Nat.one_mul]
        have hnl := HTR.out.nl
        have HCL := Lib.hid (hcall wr τ HSR.out (HBOX.out wr HKR.out) (by omega))
        have HM := Lib.hid (And.intro hm1 hm2)
        clear hcell hfv hcall hm1 hm2 hnl
        subst hge
        go_upto_region 9 with ((with_reducible refine HCL.out.mono ?_); rintro e w5 hr5; obtain ⟨q5, c5, he5⟩ := hr5.form; have HR5 := Lib.hid hr5; subst he5; clear hr5)
        rcases HR5.out.two with ⟨rfl, rfl, hlt5, τ5, hs5, ht5⟩ | ⟨r5, τ5, rfl, rfl, hs5, ht5, hd5⟩
        · have HFIN := Lib.hid (SpRes.full (F := ruleF r) (HK2.out.trans (HKR.out.trans HR5.out.1)) rfl (by have := HTR.out.hl; have := HM.out; omega) hs5 ((HTR.out.trans ht5).mono (show k * (1216 + K) + 1216 ≤ 5 * (1216 + K) by have := HM.out; omega) (show k * (1216 + K) + 1216 ≤ 5 * (1216 + K) by have := HM.out; omega)))
          clear hlt5 hs5 ht5
          go_wp2
          go_ret2
          exact HFIN.out
        · have HS5 := Lib.hid hs5
          have HT5 := Lib.hid (HTR.out.trans ht5)
          have HK5 := Lib.hid (HKR.out.trans HR5.out.1)
          have hnl := HT5.out.nl
          have hm := HM.out
          have hw := HWK.out (k + 1) (by omega)
          have HAN := Lib.hid (show Calls Try.prog 32 #[.pointer (some ⟨S, 0, none⟩), .int .i64 q, .int .i64 r5] w5 (SpRes w5 B S km A Mo τ5 (ruleK r (k + 1)) K K) from relAnd_yes hs5 (HDR.out.to ht5 HSR.out.ok hs5.ok) hd5 (ruleK_set r k) (askF_set r k) (a := K) (b := K) (Grow.wid hs5.ok.wf.two hw) (by omega))
          have s0 := cell0 (HBOX.out w5 HK5.out).s
          clear hs5 ht5 hd5 HR5 HCL hnl hm hw hcl hen
          go_upto_region 12 with ((with_reducible refine HAN.out.mono ?_); rintro e w7 hr7; obtain ⟨q7, c7, he7⟩ := hr7.form; have HR7 := Lib.hid hr7; subst he7; clear hr7)
          rcases HR7.out.two with ⟨rfl, rfl, hlt7, τ7, hs7, ht7⟩ | ⟨r7, τ7, rfl, rfl, hs7, ht7, hd7⟩
          · have HFIN := Lib.hid (SpRes.full (F := ruleF r) (HK2.out.trans (HK5.out.trans HR7.out.1)) rfl (by have := HT5.out.hl; have := HM.out; omega) hs7 ((HT5.out.trans ht7).mono (show k * (1216 + K) + 1216 + K ≤ 5 * (1216 + K) by have := HM.out; omega) (show k * (1216 + K) + 1216 + K ≤ 5 * (1216 + K) by have := HM.out; omega)))
            clear hlt7 hs7 ht7
            go_wp2
            go_ret2
            exact HFIN.out
          · have HS7 := Lib.hid hs7
            have HT7 := Lib.hid ((HT5.out.trans ht7).mono (show k * (1216 + K) + 1216 + K ≤ (k + 1) * (1216 + K) by have := HM.out; omega) (show k * (1216 + K) + 1216 + K ≤ (k + 1) * (1216 + K) by have := HM.out; omega))
            have HD7 := Lib.hid hd7
            have HK7 := Lib.hid (HK5.out.trans HR7.out.1)
            clear hs7 ht7 hd7 HR7 HAN
            go_wp2
            exact ⟨⟨k + 1, by go_num, by omega, r7, τ7, rfl, HS7, HT7, HD7, HK7⟩, by simp only [intOf]; omega⟩
      · obtain rfl : k = 5 := by omega
        have hI : ¬ ((5 : Nat) : Int) < 5 := by omega
        have hfd := HDR.out
        have hrf : ruleF r = ruleK r 5 := by unfold ruleF; rw [HN.out]
        rw [← hrf] at hfd
        have HFIN : Hid (SpRes w B S km A Mo σ (ruleF r) (5 * (1216 + K)) (5 * (1216 + K)) (.returned (.tuple #[.int .i64 q, .int .i64 0])) wr) := Lib.hid ⟨HK2.out.trans HKR.out, .inr ⟨q, τ, rfl, HSR.out, HTR.out.mono (Nat.mul_le_mul_right _ (by omega)) (Nat.mul_le_mul_right _ (by omega)), hfd⟩⟩
        clear hfd hrf
        go_wp2
        go_ret2
        exact HFIN.out
  · have hpi : ¬ r.proto ≥ 0 := hp
    have hne : asksN r = 4 := if_neg hp
    have HN := Lib.hid hne
    clear hp hne
    go_upto_region 4 with fail
    obtain ⟨A2, hA2e⟩ : ∃ A2 : Option Addr, A2 = some ⟨w0.heap.size, 0, none⟩ := ⟨_, rfl⟩
    obtain ⟨c2, hc2e⟩ : ∃ c2 : Nat, c2 = 4 := ⟨_, rfl⟩
    have HO2 := HROW
    have HA2 : Hid (0 < 4 → ∃ g, some (⟨w0.heap.size, 0, none⟩ : Addr) = some ⟨g, 0, none⟩) := Lib.hid fun _ => ⟨_, rfl⟩
    have HB2 := HB1
    clear HROW HB1 d1 hA2e hc2e
    clear A2 c2
    rename World => w2
    have HS2 := Lib.hid (HS.out.below HB2.out)
    have HK2 := Lib.hid (HK.out.trans (HS.out.kept HB2.out))
    have HAB2 := Lib.hid (show AskBox w2 S w.heap.size (w.heap.size + 1) r from ⟨blk_below HB2.out HAB.out.s, blk_below HB2.out HAB.out.r⟩)
    have HG2 := Lib.hid (And.intro (((HS.out.kept HB2.out).same _ HF1.out HNE.out.1).2) (((HS.out.kept HB2.out).same _ HF2.out HNE.out.2).2))
    have HBOX : Hid (∀ W, KeptS A km w2 W → AskBox W S w.heap.size (w.heap.size + 1) r) := Lib.hid fun W hW => ⟨(hW.same _ HG2.out.1 HNE.out.1).1.trans HAB2.out.s, (hW.same _ HG2.out.2 HNE.out.2).1.trans HAB2.out.r⟩
    have HCELL : Hid (∀ k, k < 4 → ∃ g, (some (⟨w0.heap.size, 0, none⟩ : Addr)) = some ⟨g, 0, none⟩ ∧ ∀ W, KeptS A km w2 W → W.cell? ⟨g, k, none⟩ = some (askV w.heap.size (w.heap.size + 1) k)) := Lib.hid fun k hk => by
      obtain ⟨g, hg⟩ := HA2.out (by omega)
      have hlg := HO2.out.lt g (by rw [hg]; rfl)
      have hgf := HS.out.sp.ar.foreign_new HB2.out hlg.1 hlg.2
      have hgk : g ≠ km := by have := HS.out.sp.fk.1; omega
      refine ⟨g, hg, fun W hW => (World.cell?_of_block (hW.same _ hgf hgk).1).trans ?_⟩
      have ho := HO2.out
      rw [hg] at ho
      refine (ho.cellAt k (by omega)).trans ?_
      obtain rfl | rfl | rfl | rfl : k = 0 ∨ k = 1 ∨ k = 2 ∨ k = 3 := by omega
      all_goals rfl
    clear HO2 HB2 HA2 HAB HF1 HF2 HSZ HAB2 HG2 HNE HS HK
    go_wp2
    go_loopw [7, 26] (fun f i wr => ∃ k : Nat, i = .int .i64 k ∧ k ≤ 4 ∧ ∃ (q : Nat) (τ : Sg), f = .int .i64 q ∧ Hid (SpOk wr B S km A Mo τ) ∧ Hid (To (k * (1216 + K)) (k * (1216 + K)) σ τ) ∧ Hid (Den τ q (ruleK r k)) ∧ Hid (KeptS A km w2 wr)) (fun _ i _ => 4 - (intOf i).toNat)
    case atStart => exact ⟨0, rfl, by omega, 1, σ, rfl, HS2, Lib.hid (by rw [Nat.zero_mul]; exact To.refl σ), Lib.hid (Den.one HS2.out.ok), Lib.hid (KeptS.refl _ _ _)⟩
    case round =>
      obtain ⟨k, rfl, hk, q, τ, rfl, HSR, HTR, HDR, HKR⟩ := hrel
      by_cases hlt : k < 4
      · have hI : (k : Int) < 4 := by omega
        obtain ⟨g, hge, hcell⟩ := HCELL.out k hlt
        have hcl := hcell wr HKR.out
        obtain ⟨fid, hfv, hen, hcall⟩ := ask_yes (B := B) (S := S) (km := km) (A := A) (Mo := Mo) r HOK.out w.heap.size (w.heap.size + 1) k (by rw [HN.out]; exact hlt)
        rw [hfv] at hcl
        have hm1 : (k + 1) * (1216 + K) ≤ 5 * (1216 + K) := Nat.mul_le_mul_right _ (by omega)
        have hm2 : (k + 1) * (1216 + K) = k * (1216 + K) + (1216 + K) := by rw [Nat.add_mul, Nat.one_mul]
        have hnl := HTR.out.nl
        have HCL := Lib.hid (hcall wr τ HSR.out (HBOX.out wr HKR.out) (by omega))
        have HM := Lib.hid (And.intro hm1 hm2)
        clear hcell hfv hcall hm1 hm2 hnl
        obtain rfl : g = w0.heap.size := by injection hge with hge; injection hge with h1; exact h1.symm
        go_upto_region 9 with ((with_reducible refine HCL.out.mono ?_); rintro e w5 hr5; obtain ⟨q5, c5, he5⟩ := hr5.form; have HR5 := Lib.hid hr5; subst he5; clear hr5)
        rcases HR5.out.two with ⟨rfl, rfl, hlt5, τ5, hs5, ht5⟩ | ⟨r5, τ5, rfl, rfl, hs5, ht5, hd5⟩
        · have HFIN := Lib.hid (SpRes.full (F := ruleF r) (HK2.out.trans (HKR.out.trans HR5.out.1)) rfl (by have := HTR.out.hl; have := HM.out; omega) hs5 ((HTR.out.trans ht5).mono (show k * (1216 + K) + 1216 ≤ 5 * (1216 + K) by have := HM.out; omega) (show k * (1216 + K) + 1216 ≤ 5 * (1216 + K) by have := HM.out; omega)))
          clear hlt5 hs5 ht5
          go_wp2
          go_ret2
          exact HFIN.out
        · have HS5 := Lib.hid hs5
          have HT5 := Lib.hid (HTR.out.trans ht5)
          have HK5 := Lib.hid (HKR.out.trans HR5.out.1)
          have hnl := HT5.out.nl
          have hm := HM.out
          have hw := HWK.out (k + 1) (by omega)
          have HAN := Lib.hid (show Calls Try.prog 32 #[.pointer (some ⟨S, 0, none⟩), .int .i64 q, .int .i64 r5] w5 (SpRes w5 B S km A Mo τ5 (ruleK r (k + 1)) K K) from relAnd_yes hs5 (HDR.out.to ht5 HSR.out.ok hs5.ok) hd5 (ruleK_set r k) (askF_set r k) (a := K) (b := K) (Grow.wid hs5.ok.wf.two hw) (by omega))
          have s0 := cell0 (HBOX.out w5 HK5.out).s
          clear hs5 ht5 hd5 HR5 HCL hnl hm hw hcl hen
          go_upto_region 12 with ((with_reducible refine HAN.out.mono ?_); rintro e w7 hr7; obtain ⟨q7, c7, he7⟩ := hr7.form; have HR7 := Lib.hid hr7; subst he7; clear hr7)
          rcases HR7.out.two with ⟨rfl, rfl, hlt7, τ7, hs7, ht7⟩ | ⟨r7, τ7, rfl, rfl, hs7, ht7, hd7⟩
          · have HFIN := Lib.hid (SpRes.full (F := ruleF r) (HK2.out.trans (HK5.out.trans HR7.out.1)) rfl (by have := HT5.out.hl; have := HM.out; omega) hs7 ((HT5.out.trans ht7).mono (show k * (1216 + K) + 1216 + K ≤ 5 * (1216 + K) by have := HM.out; omega) (show k * (1216 + K) + 1216 + K ≤ 5 * (1216 + K) by have := HM.out; omega)))
            clear hlt7 hs7 ht7
            go_wp2
            go_ret2
            exact HFIN.out
          · have HS7 := Lib.hid hs7
            have HT7 := Lib.hid ((HT5.out.trans ht7).mono (show k * (1216 + K) + 1216 + K ≤ (k + 1) * (1216 + K) by have := HM.out; omega) (show k * (1216 + K) + 1216 + K ≤ (k + 1) * (1216 + K) by have := HM.out; omega))
            have HD7 := Lib.hid hd7
            have HK7 := Lib.hid (HK5.out.trans HR7.out.1)
            clear hs7 ht7 hd7 HR7 HAN
            go_wp2
            exact ⟨⟨k + 1, by go_num, by omega, r7, τ7, rfl, HS7, HT7, HD7, HK7⟩, by simp only [intOf]; omega⟩
      · obtain rfl : k = 4 := by omega
        have hI : ¬ ((4 : Nat) : Int) < 4 := by omega
        have hfd := HDR.out
        have hrf : ruleF r = ruleK r 4 := by unfold ruleF; rw [HN.out]
        rw [← hrf] at hfd
        have HFIN : Hid (SpRes w B S km A Mo σ (ruleF r) (5 * (1216 + K)) (5 * (1216 + K)) (.returned (.tuple #[.int .i64 q, .int .i64 0])) wr) := Lib.hid ⟨HK2.out.trans HKR.out, .inr ⟨q, τ, rfl, HSR.out, HTR.out.mono (Nat.mul_le_mul_right _ (by omega)) (Nat.mul_le_mul_right _ (by omega)), hfd⟩⟩
        clear hfd hrf
        go_wp2
        go_ret2
        exact HFIN.out
end
end Go.Proofs.Ytcchiagclhkieaa

/-
  Rules that are the same but for what they say of headers that fit.
-/
namespace Go.Proofs.Ytcchiagclhkieaa
open Go Go.RowKit Go.ChangeMaps Go.MapKept Go.Maps Go.Lib Go.Sort

theorem eqPrefD (a m b n : Int) (d : Nat) (w : World) : (Op.equalIn (d + 1 + 1) 45 (.agg #[.int .u32 a, .int .i64 m]) (.agg #[.int .u32 b, .int .i64 n])).run Try.prog w = .ok (decide (a = b) && decide (m = n)) w := by
  have hS : Try.prog.underlying 45 = some (.struct (Try.prog.fieldsOf 45)) := by kernel_rfl
  have hp : Try.prog.stoodInHeld 45 = false := by kernel_rfl
  have a1 := Try.underlying27
  have a2 := Try.isAgg27
  have a3 := Try.sizeOf27
  have b1 := Try.underlying3
  have b2 := Try.isAgg3
  have b3 := Try.sizeOf3
  by_cases h1 : a = b
  · by_cases h2 : m = n
    · subst h1 h2
      rw [run_equalIn_agg w (d + 1) 45 _ _ hS hp]
      simp only [Program.fieldsOf, Try.underlying45]
      go_simp
    · subst h1
      rw [run_equalIn_agg w (d + 1) 45 _ _ hS hp]
      simp only [Program.fieldsOf, Try.underlying45]
      go_simp
  · rw [run_equalIn_agg w (d + 1) 45 _ _ hS hp]
    simp only [Program.fieldsOf, Try.underlying45]
    go_simp
theorem eqSpanD (a m b n : Int) (d : Nat) (w : World) : (Op.equalIn (d + 1 + 1) 43 (.agg #[.int .u32 a, .int .u32 m]) (.agg #[.int .u32 b, .int .u32 n])).run Try.prog w = .ok (decide (a = b) && decide (m = n)) w := by
  have hS : Try.prog.underlying 43 = some (.struct (Try.prog.fieldsOf 43)) := by kernel_rfl
  have hp : Try.prog.stoodInHeld 43 = false := by kernel_rfl
  have a1 := Try.underlying26
  have a2 := Try.isAgg26
  have a3 := Try.sizeOf26
  by_cases h1 : a = b
  · by_cases h2 : m = n
    · subst h1 h2
      rw [run_equalIn_agg w (d + 1) 43 _ _ hS hp]
      simp only [Program.fieldsOf, Try.underlying43]
      go_simp
    · subst h1
      rw [run_equalIn_agg w (d + 1) 43 _ _ hS hp]
      simp only [Program.fieldsOf, Try.underlying43]
      go_simp
  · rw [run_equalIn_agg w (d + 1) 43 _ _ hS hp]
    simp only [Program.fieldsOf, Try.underlying43]
    go_simp
/-- The same rule. -/
def sameR (x y : RuleV) : Bool := (x.permit == y.permit) && decide (x.proto = y.proto) && (decide (x.sa = y.sa) && decide (x.sn = y.sn)) && (decide (x.da = y.da) && decide (x.dn = y.dn)) && (decide (x.sl = y.sl) && decide (x.sh = y.sh)) && (decide (x.dl = y.dl) && decide (x.dh = y.dh))
theorem eqRuleD (x y : RuleV) (w : World) : (binOp .eql 47 (.agg #[.bool x.permit, .int .i64 x.proto, .int .u32 x.sa, .int .i64 x.sn, .int .u32 x.da, .int .i64 x.dn, .int .u32 x.sl, .int .u32 x.sh, .int .u32 x.dl, .int .u32 x.dh]) (.agg #[.bool y.permit, .int .i64 y.proto, .int .u32 y.sa, .int .i64 y.sn, .int .u32 y.da, .int .i64 y.dn, .int .u32 y.sl, .int .u32 y.sh, .int .u32 y.dl, .int .u32 y.dh])).run Try.prog w = .ok (.bool (sameR x y)) w := by
  have hS : Try.prog.underlying 47 = some (.struct (Try.prog.fieldsOf 47)) := by kernel_rfl
  have hp : Try.prog.stoodInHeld 47 = false := by kernel_rfl
  have b1 := Try.underlying3
  have b2 := Try.isAgg3
  have b3 := Try.sizeOf3
  have c1 := Try.underlying4
  have c2 := Try.isAgg4
  have c3 := Try.sizeOf4
  have d2 := Try.isAgg45
  have d3 := Try.sizeOf45
  have e2 := Try.isAgg43
  have e3 := Try.sizeOf43
  rw [run_eql_struct, show (10000 : Nat) = 9997 + 1 + 1 + 1 from rfl, run_equalIn_agg w (9997 + 1 + 1) 47 _ _ hS hp]
  generalize 9997 = d
  have E1 := fun w => eqPrefD x.sa x.sn y.sa y.sn d w
  have E2 := fun w => eqPrefD x.da x.dn y.da y.dn d w
  have E3 := fun w => eqSpanD x.sl x.sh y.sl y.sh d w
  have E4 := fun w => eqSpanD x.dl x.dh y.dl y.dh d w
  simp only [Program.fieldsOf, Try.underlying47]
  unfold sameR
  generalize (decide (x.sa = y.sa) && decide (x.sn = y.sn)) = P1 at *
  generalize (decide (x.da = y.da) && decide (x.dn = y.dn)) = P2 at *
  generalize (decide (x.sl = y.sl) && decide (x.sh = y.sh)) = P3 at *
  generalize (decide (x.dl = y.dl) && decide (x.dh = y.dh)) = P4 at *
  generalize x.permit = q1 at *
  generalize y.permit = q2 at *
  by_cases hq : q1 = q2
  · subst hq
    by_cases hp2 : x.proto = y.proto
    · rw [hp2]
      have e1 : (y.proto == y.proto) = true := by simp
      cases P1
      · cases q1 <;> go_simp
      · cases P2
        · cases q1 <;> go_simp
        · cases P3
          · cases q1 <;> go_simp
          · cases P4 <;> cases q1 <;> go_simp
    · have e1 : (x.proto == y.proto) = false := by simpa using hp2
      cases q1 <;> go_simp
  · cases q1 <;> cases q2
    · exact absurd rfl hq
    · go_simp
    · go_simp
    · exact absurd rfl hq
theorem rulesEq_any (x y : RuleV) (bx : Nat) (w : World) (hb : w.heap[bx]? = some (.cells #[.bool y.permit, .int .i64 y.proto, .int .u32 y.sa, .int .i64 y.sn, .int .u32 y.da, .int .i64 y.dn, .int .u32 y.sl, .int .u32 y.sh, .int .u32 y.dl, .int .u32 y.dh] 47 (0, 0))) :
    Calls Try.prog 30 #[.agg #[.bool x.permit, .int .i64 x.proto, .int .u32 x.sa, .int .i64 x.sn, .int .u32 x.da, .int .i64 x.dn, .int .u32 x.sl, .int .u32 x.sh, .int .u32 x.dl, .int .u32 x.dh], .pointer (some ⟨bx, 0, none⟩)] w fun e w' => e = .returned (.bool (sameR x y)) ∧ Below w.heap.size w w' := by
  have hbw := below1 w (.cells #[.bool x.permit, .int .i64 x.proto, .int .u32 x.sa, .int .i64 x.sn, .int .u32 x.da, .int .i64 x.dn, .int .u32 x.sl, .int .u32 x.sh, .int .u32 x.dl, .int .u32 x.dh] 47)
  have hk := blk1 w (.cells #[.bool x.permit, .int .i64 x.proto, .int .u32 x.sa, .int .i64 x.sn, .int .u32 x.da, .int .i64 x.dn, .int .u32 x.sl, .int .u32 x.sh, .int .u32 x.dl, .int .u32 x.dh] 47)
  have hy := blk_below hbw hb
  have HEQ := eqRuleD x y
  have HB := Lib.hid hbw
  go_enter Try.func30, Try.ntmps30
  go_upto_region 1 with fail
  clear hbw
  generalize w.alloc (.cells #[.bool x.permit, .int .i64 x.proto, .int .u32 x.sa, .int .i64 x.sn, .int .u32 x.da, .int .i64 x.dn, .int .u32 x.sl, .int .u32 x.sh, .int .u32 x.dl, .int .u32 x.dh] 47) = w1 at *
  have x0 : w1.cell? ⟨w.heap.size, 0, none⟩ = some (.bool x.permit) := cell_of_row _ _ 0 _ _ (0, 0) hk
  have x1 : w1.cell? ⟨w.heap.size, 1, none⟩ = some (.int .i64 x.proto) := cell_of_row _ _ 1 _ _ (0, 0) hk
  have x2 : w1.cell? ⟨w.heap.size, 2, none⟩ = some (.int .u32 x.sa) := cell_of_row _ _ 2 _ _ (0, 0) hk
  have x3 : w1.cell? ⟨w.heap.size, 3, none⟩ = some (.int .i64 x.sn) := cell_of_row _ _ 3 _ _ (0, 0) hk
  have x4 : w1.cell? ⟨w.heap.size, 4, none⟩ = some (.int .u32 x.da) := cell_of_row _ _ 4 _ _ (0, 0) hk
  have x5 : w1.cell? ⟨w.heap.size, 5, none⟩ = some (.int .i64 x.dn) := cell_of_row _ _ 5 _ _ (0, 0) hk
  have x6 : w1.cell? ⟨w.heap.size, 6, none⟩ = some (.int .u32 x.sl) := cell_of_row _ _ 6 _ _ (0, 0) hk
  have x7 : w1.cell? ⟨w.heap.size, 7, none⟩ = some (.int .u32 x.sh) := cell_of_row _ _ 7 _ _ (0, 0) hk
  have x8 : w1.cell? ⟨w.heap.size, 8, none⟩ = some (.int .u32 x.dl) := cell_of_row _ _ 8 _ _ (0, 0) hk
  have x9 : w1.cell? ⟨w.heap.size, 9, none⟩ = some (.int .u32 x.dh) := cell_of_row _ _ 9 _ _ (0, 0) hk
  have y0 : w1.cell? ⟨bx, 0, none⟩ = some (.bool y.permit) := cell_of_row _ _ 0 _ _ (0, 0) hy
  have y1 : w1.cell? ⟨bx, 1, none⟩ = some (.int .i64 y.proto) := cell_of_row _ _ 1 _ _ (0, 0) hy
  have y2 : w1.cell? ⟨bx, 2, none⟩ = some (.int .u32 y.sa) := cell_of_row _ _ 2 _ _ (0, 0) hy
  have y3 : w1.cell? ⟨bx, 3, none⟩ = some (.int .i64 y.sn) := cell_of_row _ _ 3 _ _ (0, 0) hy
  have y4 : w1.cell? ⟨bx, 4, none⟩ = some (.int .u32 y.da) := cell_of_row _ _ 4 _ _ (0, 0) hy
  have y5 : w1.cell? ⟨bx, 5, none⟩ = some (.int .i64 y.dn) := cell_of_row _ _ 5 _ _ (0, 0) hy
  have y6 : w1.cell? ⟨bx, 6, none⟩ = some (.int .u32 y.sl) := cell_of_row _ _ 6 _ _ (0, 0) hy
  have y7 : w1.cell? ⟨bx, 7, none⟩ = some (.int .u32 y.sh) := cell_of_row _ _ 7 _ _ (0, 0) hy
  have y8 : w1.cell? ⟨bx, 8, none⟩ = some (.int .u32 y.dl) := cell_of_row _ _ 8 _ _ (0, 0) hy
  have y9 : w1.cell? ⟨bx, 9, none⟩ = some (.int .u32 y.dh) := cell_of_row _ _ 9 _ _ (0, 0) hy
  clear hk hy hb
  go_wp2
  go_ret
  exact ⟨rfl, HB.out⟩
end Go.Proofs.Ytcchiagclhkieaa

/-
  A filter's rules, one behind the other: what is left, what each decides; the rows that the walk keeps.
-/
namespace Go.Proofs.Ytcchiagclhkieaa
open Go Go.RowKit Go.ChangeMaps Go.MapKept Go.Maps Go.Lib Go.Sort

def ruleAt (L : List RuleV) (k : Nat) : Fun := fun s => (L[k]?.map fun r => ruleF r s).getD false
/-- What the first k rules leave; what rule k decides. -/
def leftF (L : List RuleV) (k : Nat) : Fun := fun s => !(L.take k).any fun r => ruleF r s
def decF (L : List RuleV) (k : Nat) : Fun := fun s => leftF L k s && ruleAt L k s
theorem ruleAt_eq {L : List RuleV} {k : Nat} {r : RuleV} (h : L[k]? = some r) : ruleAt L k = ruleF r := funext fun s => by unfold ruleAt; rw [h]; rfl
theorem leftF_succ {L : List RuleV} {k : Nat} {r : RuleV} (h : L[k]? = some r) : leftF L (k + 1) = fun s => leftF L k s && !ruleF r s := funext fun s => by
  unfold leftF
  rw [List.take_add_one, h]
  simp [List.any_append]
theorem decF_eq {L : List RuleV} {k : Nat} {r : RuleV} (h : L[k]? = some r) : decF L k = fun s => leftF L k s && ruleF r s := funext fun s => by
  unfold decF
  rw [ruleAt_eq h]
theorem leftF_set (L : List RuleV) : ∀ k, SetF (leftF L k) := by
  intro k
  induction k with
  | zero => exact SetF.const true
  | succ k ih =>
    cases h : L[k]? with
    | none =>
      have e : leftF L (k + 1) = leftF L k := by unfold leftF; rw [List.take_add_one, h]; simp
      rw [e]; exact ih
    | some r =>
      rw [leftF_succ h]
      exact ih.op2 (fun x y => x && !y) (ruleK_set r _)
theorem decF_set {L : List RuleV} {k : Nat} {r : RuleV} (h : L[k]? = some r) : SetF (decF L k) := by
  rw [decF_eq h]
  exact (leftF_set L k).op2 (fun x y => x && y) (ruleK_set r _)
/-- A rule that denies, the same otherwise. -/
def anyR (r : RuleV) : RuleV := ⟨false, r.proto, r.sa, r.sn, r.da, r.dn, r.sl, r.sh, r.dl, r.dh, r.hpr, r.hsa, r.hda, r.hsl, r.hsh, r.hdl, r.hdh⟩
theorem askF_any (r : RuleV) : ∀ k, askF (anyR r) k = askF r k
  | 0 => rfl
  | 1 => rfl
  | 2 => rfl
  | 3 => rfl
  | _ + 4 => rfl
theorem ruleK_any (r : RuleV) : ∀ k, ruleK (anyR r) k = ruleK r k
  | 0 => rfl
  | k + 1 => by
    show (fun s => ruleK (anyR r) k s && askF (anyR r) k s) = fun s => ruleK r k s && askF r k s
    rw [ruleK_any r k, askF_any]
theorem ruleF_any (r : RuleV) : ruleF (anyR r) = ruleF r := ruleK_any r _
theorem sameR_eq {x y : RuleV} (h : sameR x y = true) : x = y := by
  unfold sameR at h
  simp only [Bool.and_eq_true, decide_eq_true_eq, beq_iff_eq] at h
  obtain ⟨⟨⟨⟨⟨h1, h2⟩, h3, h4⟩, h5, h6⟩, h7, h8⟩, h9, h10⟩ := h
  cases x; cases y
  simp only at h1 h2 h3 h4 h5 h6 h7 h8 h9 h10
  subst h1 h2 h3 h4 h5 h6 h7 h8 h9 h10
  rfl
/-- Nodes in a row. -/
def ncl (ns : List Nat) : List Value := ns.map fun (n : Nat) => Value.int .i64 (n : Int)
/-- The row's block is none of the space's. -/
def OwnF (A : Blks) (km S : Nat) (w : World) (v : Value) : Prop := ∀ g, v.ownBlock = some g → Foreign A w g ∧ g ≠ km ∧ g ≠ S
/-- A list that came in, in a block that is none of the space's. -/
def RdF (A : Blks) (km : Nat) (w : World) (k : Nat) (v : Value) (n : Nat) (xs : List Value) : Prop :=
  ∃ (P : Option Addr) (c : Nat), v = .slice P n c ∧ n ≤ c ∧ xs.length = n * k ∧ (0 < n → ∃ b off, P = some ⟨b, off, none⟩ ∧ Foreign A w b ∧ b ≠ km ∧ ∀ j u, xs[j]? = some u → w.cell? ⟨b, off + j, none⟩ = some u)
theorem RdF.rd {A : Blks} {km : Nat} {w : World} {k : Nat} {v : Value} {n : Nat} {xs : List Value} (h : RdF A km w k v n xs) : Rd w w.heap.size k v n xs := by
  obtain ⟨P, c, h1, h2, h3, h4⟩ := h
  exact ⟨P, c, h1, h2, h3, fun hn => by obtain ⟨b, off, e, f, _, g⟩ := h4 hn; exact ⟨b, off, e, f.1, g⟩⟩
theorem RdF.kept {A : Blks} {km : Nat} {w w' : World} {k : Nat} {v : Value} {n : Nat} {xs : List Value} (h : RdF A km w k v n xs) (hk : KeptS A km w w') : RdF A km w' k v n xs := by
  obtain ⟨P, c, h1, h2, h3, h4⟩ := h
  refine ⟨P, c, h1, h2, h3, fun hn => ?_⟩
  obtain ⟨b, off, e, f, f2, g⟩ := h4 hn
  exact ⟨b, off, e, (hk.same b f f2).2, f2, fun j u hu => (World.cell?_of_block (hk.same b f f2).1).trans (g j u hu)⟩
section
variable {w0 wr : World} {B S km : Nat} {A : Blks} {Mo : Nat} {τ : Sg}
/-- The space where blocks of others turned. -/
theorem SpOk.others {w w' : World} (h : SpOk w B S km A Mo τ) {r : Option Nat} (hg : w.grownBy w' r) (hr : ∀ g, r = some g → Foreign A w g ∧ g ≠ km ∧ g ≠ S) :
    SpOk w' B S km A Mo τ ∧ (∀ k, Foreign A w k → Foreign A w' k) ∧ ∀ k, w.heap.size ≤ k → k < w'.heap.size → Foreign A w' k ∧ k ≠ km ∧ k ≠ S := by
  obtain ⟨nv, hA⟩ := h.sp.ar
  obtain ⟨a1, a2, a3⟩ := hA.calm hg.size fun k hk hn => hg.block k hk (fun e => hn (hr k e.symm).1)
  have hkm := h.sp.fk.1
  have hS := lt_of_block h.sp.cells
  exact ⟨⟨⟨⟨nv, a1⟩, (hg.block S hS (fun e => (hr S e.symm).2.2 rfl)).trans h.sp.cells, a2 _ h.sp.fs, h.sp.known.same (hg.block km hkm (fun e => (hr km e.symm).2.1 rfl)), a2 _ h.sp.fk, h.sp.ne⟩, h.ok⟩, a2, fun k h1 h2 => ⟨a3 k h1 h2, by omega, by omega⟩⟩
theorem KeptS.others {w w' w0 : World} (h : KeptS A km w0 w) {r : Option Nat} (hg : w.grownBy w' r) (hs : ∀ g, r = some g → w0.heap.size ≤ g) (hf : ∀ k, Foreign A w k → Foreign A w' k) : KeptS A km w0 w' :=
  ⟨hg.os.trans h.os, hg.tape.trans h.tape, hg.output.trans h.output, Nat.le_trans h.size hg.size, fun k hk hn => ⟨(hg.block k (Nat.lt_of_lt_of_le hk.1 h.size) (fun e => by have := hs k e.symm; have := hk.1; omega)).trans (h.same k hk hn).1, hf k (h.same k hk hn).2⟩⟩
/-- What the walk of the rules keeps: the space, the row of what is decided, the row of the rules that were seen. -/
structure RuSt (w0 wr : World) (B S km : Nat) (A : Blks) (Mo : Nat) (τ : Sg) (ov : Value) (ns : List Nat) (sv : Value) (D : List RuleV) : Prop where
  sp : SpOk wr B S km A Mo τ
  kept : KeptS A km w0 wr
  out : wr.ownsRow w0.heap.size 3 1 ov ns.length (ncl ns)
  outf : OwnF A km S wr ov
  seen : wr.ownsRow w0.heap.size 47 10 sv D.length (rcells D)
  seenf : OwnF A km S wr sv
  dis : ∀ g, ov.ownBlock = some g → sv.ownBlock ≠ some g
theorem RuSt.space {ov sv : Value} {ns : List Nat} {D : List RuleV} {w' : World} {τ' : Sg} (h : RuSt w0 wr B S km A Mo τ ov ns sv D) (k : KeptS A km wr w') (s : SpOk w' B S km A Mo τ') : RuSt w0 w' B S km A Mo τ' ov ns sv D :=
  ⟨s, h.kept.trans k, owns_like h.out fun g hg => (k.same g (h.outf g hg).1 (h.outf g hg).2.1).1, fun g hg => ⟨(k.same g (h.outf g hg).1 (h.outf g hg).2.1).2, (h.outf g hg).2⟩,
    owns_like h.seen fun g hg => (k.same g (h.seenf g hg).1 (h.seenf g hg).2.1).1, fun g hg => ⟨(k.same g (h.seenf g hg).1 (h.seenf g hg).2.1).2, (h.seenf g hg).2⟩, h.dis⟩
theorem RuSt.below {ov sv : Value} {ns : List Nat} {D : List RuleV} {w' : World} (h : RuSt w0 wr B S km A Mo τ ov ns sv D) (hb : Below wr.heap.size wr w') : RuSt w0 w' B S km A Mo τ ov ns sv D := h.space (h.sp.kept hb) (h.sp.below hb)
theorem RuSt.start (h : SpOk w0 B S km A Mo τ) : RuSt w0 w0 B S km A Mo τ (.slice none 0 0) [] (.slice none 0 0) [] :=
  ⟨h, KeptS.refl _ _ _, World.ownsRow_nil _ _ _ _, fun g hg => by simp [Value.ownBlock] at hg, World.ownsRow_nil _ _ _ _, fun g hg => by simp [Value.ownBlock] at hg, fun g hg => by simp [Value.ownBlock] at hg⟩
theorem OwnF.pushed {w w' : World} {v v' : Value} (h : OwnF A km S w v) (hf : ∀ k, Foreign A w k → Foreign A w' k) (hn : ∀ k, w.heap.size ≤ k → k < w'.heap.size → Foreign A w' k ∧ k ≠ km ∧ k ≠ S) (hm : Moved v v' w.heap.size) (hl : ∀ g, v'.ownBlock = some g → g < w'.heap.size) : OwnF A km S w' v' := fun g hg => by
  rcases hm with hm | hm
  · have := h g (by rw [← hm]; exact hg)
    exact ⟨hf g this.1, this.2⟩
  · exact hn g (hm g hg) (hl g hg)
theorem RuSt.pushOut {ov sv ov' : Value} {ns : List Nat} {D : List RuleV} {w' : World} {n : Nat} (h : RuSt w0 wr B S km A Mo τ ov ns sv D) (ho : w'.ownsRow w0.heap.size 3 1 ov' (ns.length + 1) (ncl ns ++ [.int .i64 (n : Int)])) (hg : wr.grownBy w' ov.ownBlock) (hm : Moved ov ov' wr.heap.size) :
    RuSt w0 w' B S km A Mo τ ov' (ns ++ [n]) sv D := by
  obtain ⟨s1, s2, s3⟩ := h.sp.others hg h.outf
  have hk := h.kept.others hg (fun g hg => (h.out.lt g hg).1) s2
  have hsame : ∀ g, sv.ownBlock = some g → w'.heap[g]? = wr.heap[g]? := fun g hgs => hg.block g (h.seen.lt g hgs).2 (fun e => h.dis g e.symm hgs)
  refine ⟨s1, hk, ?_, h.outf.pushed s2 s3 hm (fun g hg => (ho.lt g hg).2), owns_like h.seen hsame, fun g hgs => ⟨s2 g (h.seenf g hgs).1, (h.seenf g hgs).2⟩, fun g hgo hgs => ?_⟩
  · rw [List.length_append]
    have e : ncl (ns ++ [n]) = ncl ns ++ [.int .i64 (n : Int)] := by simp [ncl]
    rw [e]
    exact ho
  · rcases hm with hm | hm
    · exact h.dis g (by rw [← hm]; exact hgo) hgs
    · have := hm g hgo
      have := (h.seen.lt g hgs).2
      omega
theorem RuSt.pushSeen {ov sv sv' : Value} {ns : List Nat} {D : List RuleV} {w' : World} {r : RuleV} (h : RuSt w0 wr B S km A Mo τ ov ns sv D) (ho : w'.ownsRow w0.heap.size 47 10 sv' (D.length + 1) (rcells D ++ r.enc)) (hg : wr.grownBy w' sv.ownBlock) (hm : Moved sv sv' wr.heap.size) :
    RuSt w0 w' B S km A Mo τ ov ns sv' (D ++ [r]) := by
  obtain ⟨s1, s2, s3⟩ := h.sp.others hg h.seenf
  have hk := h.kept.others hg (fun g hg => (h.seen.lt g hg).1) s2
  have hsame : ∀ g, ov.ownBlock = some g → w'.heap[g]? = wr.heap[g]? := fun g hgo => hg.block g (h.out.lt g hgo).2 (fun e => h.dis g hgo e.symm)
  refine ⟨s1, hk, owns_like h.out hsame, fun g hgo => ⟨s2 g (h.outf g hgo).1, (h.outf g hgo).2⟩, ?_, h.seenf.pushed s2 s3 hm (fun g hg => (ho.lt g hg).2), fun g hgo hgs => ?_⟩
  · rw [List.length_append]
    have e : rcells (D ++ [r]) = rcells D ++ r.enc := by simp [rcells]
    rw [e]
    exact ho
  · rcases hm with hm | hm
    · exact h.dis g hgo (by rw [← hm]; exact hgs)
    · have := hm g hgs
      have := (h.out.lt g hgo).2
      omega
end
end Go.Proofs.Ytcchiagclhkieaa

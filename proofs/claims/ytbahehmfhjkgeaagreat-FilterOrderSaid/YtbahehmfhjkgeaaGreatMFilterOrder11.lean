/-
  Joined texts: Rf1, Fr2, Fr3, Fr4, Fr5, Fr6, Wb4.
-/
import Derived.Test.YtbahehmfhjkgeaaGreatMFilterOrder10
import Derived.Deep.DeepCutAuto
import Derived.Test.YtbahehmfhjkgeaaGreatMFilterOrder3
/-
  What a space makes of sets and relations (written by wip/gen/genrf1.py).
-/
namespace Go.Proofs.YtbahehmfhjkgeaaGreat
open Go Go.RowKit Go.ChangeMaps Go.MapKept Go.Maps Go.Lib Go.Sort

section
variable {w : World} {B S km : Nat} {A : Blks} {Mo : Nat} {σ : Sg}
set_option maxRecDepth 100000
set_option maxHeartbeats 1000000
def I64 (x : Int) : Prop := -9223372036854775808 ≤ x ∧ x ≤ 9223372036854775807
theorem SpOk.check1 (h : SpOk w B S km A Mo σ) (x : Int) (hx : I64 x) :
    Calls Tryz.prog 52 #[.pointer (some ⟨S, 0, none⟩), .slice (some ⟨w.heap.size, 0, none⟩) 1 1, .slice none 0 0] (w.alloc (.cells #[.int .i64 x] 3)) (fun e w' => ChRes w B S km A Mo σ [x] [] e w') := h.check [x] (by simp; exact hx) (by simp)
theorem allOk1 {f : Nat} {F : Fun} (hf : Den σ f F) (sf : SetF F) : AllNum σ [(f : Int)] [] := ⟨by simp, by
  intro x hx
  simp at hx
  subst hx
  exact hf.setOk sf⟩
theorem relOr_yes (h : SpOk w B S km A Mo σ) {f g : Nat} {F G : Fun} (hf : Den σ f F) (hg : Den σ g G) (sf : SetF F) (sg : SetF G) {a b : Nat} (hgr : Grow σ.N σ.H (fun s => F s || G s) a b) (hl : σ.N.length + a ≤ 2147483647) :
    Calls Tryz.prog 31 #[.pointer (some ⟨S, 0, none⟩), .int .i64 f, .int .i64 g] w (SpRes w B S km A Mo σ (fun s => F s || G s) a b) := by
  have hfl := hf.lt64 h.ok
  have hgl := hg.lt64 h.ok
  have c0 := h.sp.c0
  have htwo := Lib.hid (two_yes (fid := 90) (ts := #[.pointer (some ⟨A.a, 0, none⟩)]) (cs := #[]) (Post := fun W e w' => ∃ K, SpRes W B S km A Mo (σ.know K) (fun s => F s || G s) a b e w') h (fun r W W' ⟨K, hr⟩ => hr.form) (fun _ _ => by go_simp) f g (by omega) (by omega) (allOk2 hf hg sf sg)
    (fun K W hs _ => (hs.or (hf.known K) (hg.known K) hgr hl).mono fun e w' hr => ⟨K, hr⟩))
  clear h hf hg sf sg hgr hl
  go_enter Tryz.func31, Tryz.ntmps31
  go_wp2_with ((with_reducible refine htwo.out.mono ?_); rintro e W2 ⟨K, W, hs, hk, K2, hr⟩; have HR := Lib.hid (hr.known hk); obtain ⟨q, c, rfl⟩ := hr.form; clear hs hk hr)
  go_ret2
  exact HR.out
theorem less1 (h : SpOk w B S km A Mo σ) {f g : Nat} {F G : Fun} (hf : Den σ f F) (hg : Den σ g G) {bx : Nat} (hb : w.cell? ⟨bx, 0, none⟩ = some (.pointer (some ⟨S, 0, none⟩))) {a b : Nat} (hgr : Grow σ.N σ.H (fun s => F s && !G s) a b) (hl : σ.N.length + a ≤ 2147483647) :
    Calls Tryz.prog 91 #[.int .i64 f, .int .i64 g, .pointer (some ⟨bx, 0, none⟩)] w (SpRes w B S km A Mo σ (fun s => F s && !G s) a b) := by
  have c0 := h.sp.c0
  have e : (fun s => F s && !G s) = fun s => if G s then false else F s := funext fun s => by cases F s <;> cases G s <;> rfl
  rw [e] at hgr ⊢
  have hite := Lib.hid (show Calls Tryz.prog 92 #[.pointer (some ⟨A.a, 0, none⟩), .int .i64 g, .int .i64 0, .int .i64 f] w (SpRes w B S km A Mo σ (fun s => if G s then false else F s) a b) from h.ite hg (Den.zero h.ok) hf hgr hl)
  clear h hf hg hgr hl e
  go_enter Tryz.func91, Tryz.ntmps91
  go_wp2_with ((with_reducible refine hite.out.mono ?_); rintro e W2 hr; have HR := Lib.hid hr; obtain ⟨q, c, rfl⟩ := hr.form; clear hr)
  go_ret2
  exact HR.out
theorem relLess_yes (h : SpOk w B S km A Mo σ) {f g : Nat} {F G : Fun} (hf : Den σ f F) (hg : Den σ g G) (sf : SetF F) (sg : SetF G) {a b : Nat} (hgr : Grow σ.N σ.H (fun s => F s && !G s) a b) (hl : σ.N.length + a ≤ 2147483647) :
    Calls Tryz.prog 32 #[.pointer (some ⟨S, 0, none⟩), .int .i64 f, .int .i64 g] w (SpRes w B S km A Mo σ (fun s => F s && !G s) a b) := by
  have hfl := hf.lt64 h.ok
  have hgl := hg.lt64 h.ok
  have hb := below1 w (.cells #[.pointer (some ⟨S, 0, none⟩)] 26)
  have kb := blk1 w (.cells #[.pointer (some ⟨S, 0, none⟩)] 26)
  have cb := cell0 kb
  have hkb := h.kept hb
  have hfo := h.sp.ar.foreign_new hb (Nat.le_refl _) (lt_of_block kb)
  have hfk := h.sp.fk.1
  have htwo := Lib.hid (two_yes (fid := 91) (ts := #[]) (cs := #[.pointer (some ⟨w.heap.size, 0, none⟩)]) (Post := fun W e w' => ∃ K, SpRes W B S km A Mo (σ.know K) (fun s => F s && !G s) a b e w') (h.below hb) (fun r W W' ⟨K, hr⟩ => hr.form) (fun _ _ => by go_simp) f g (by omega) (by omega) (allOk2 hf hg sf sg)
    (fun K W hs hk => (less1 hs (hf.known K) (hg.known K) (cell0 ((hk.same _ hfo (by omega)).1.trans kb)) hgr hl).mono fun e w' hr => ⟨K, hr⟩))
  have HK := Lib.hid hkb
  clear h hf hg sf sg hgr hl hb kb hkb hfo hfk
  go_enter Tryz.func32, Tryz.ntmps32
  go_wp2_with ((with_reducible refine htwo.out.mono ?_); rintro e W2 ⟨K, W, hs, hk, K2, hr⟩; have HR := Lib.hid (hr.known (HK.out.trans hk)); obtain ⟨q, c, rfl⟩ := hr.form; clear hs hk hr)
  go_ret2
  exact HR.out
theorem relNot_yes (h : SpOk w B S km A Mo σ) {f : Nat} {F : Fun} (hf : Den σ f F) (sf : SetF F) {a b : Nat} (hgr : Grow σ.N σ.H (fun s => !F s) a b) (hl : σ.N.length + a ≤ 2147483647) :
    Calls Tryz.prog 12 #[.pointer (some ⟨S, 0, none⟩), .int .i64 f] w (SpRes w B S km A Mo σ (fun s => !F s) a b) := by
  have hfl := hf.lt64 h.ok
  have HCK := Lib.hid (h.check1 f (by unfold I64; omega))
  have HOP := Lib.hid (fun (K : List (Value × Value)) (W : World) (hs : SpOk W B S km A Mo (σ.know K)) => hs.not (hf.known K) hgr hl)
  have OK := Lib.hid (allOk1 hf sf)
  clear h hf sf hgr hl
  go_enter Tryz.func12, Tryz.ntmps12
  go_upto_region 2 with ((with_reducible refine HCK.out.mono ?_); rintro e W2 hr; obtain ⟨he, K, hs2, hk2⟩ := hr.yes OK.out; subst he; have HS2 := Lib.hid hs2; have HK2 := Lib.hid hk2; clear hr hs2 hk2)
  have c0 := HS2.out.sp.c0
  have HO := Lib.hid (HOP.out K W2 HS2.out)
  clear HOP
  go_wp2_with ((with_reducible refine HO.out.mono ?_); rintro e W3 hr; have HR := Lib.hid (hr.known HK2.out); obtain ⟨q, c, rfl⟩ := hr.form; clear hr)
  go_ret2
  exact HR.out
end
end Go.Proofs.YtbahehmfhjkgeaaGreat

/-
  A rule's set (written by wip/gen/genfr2.py).
-/
namespace Go.Proofs.YtbahehmfhjkgeaaGreat
open Go Go.RowKit Go.ChangeMaps Go.MapKept Go.Maps Go.Lib Go.Sort

/-- The first k of a rule's asks. -/
def ruleK (r : RuleV) : Nat → Fun
  | 0 => fun _ => true
  | k + 1 => fun s => ruleK r k s && askF r k s
def asksN (r : RuleV) : Nat := if 0 ≤ r.proto then 5 else 4
def ruleF (r : RuleV) : Fun := ruleK r (asksN r)
theorem SetF.lit {F : Fun} {x : Nat} (hx : x % 2 = 0) (b : Bool) (h : SetF F) : SetF (litF x b F) := fun v hv s c => by
  unfold litF
  rw [put_other (by omega), h v hv]
theorem SetF.step {F : Fun} {x : Nat} (hx : x % 2 = 0) (up b : Bool) (h : SetF F) : SetF (stepF x up b F) := fun v hv s c => by
  unfold stepF
  rw [put_other (by omega), h v hv]
theorem SetF.const (b : Bool) : SetF (fun _ => b) := fun v _ => Free.const b v
theorem SetF.op2 {F G : Fun} (o : Bool → Bool → Bool) (a : SetF F) (b : SetF G) : SetF (fun s => o (F s) (G s)) := fun v hv => (a v hv).op2 o (b v hv)
theorem SetF.op1 {F : Fun} (o : Bool → Bool) (a : SetF F) : SetF (fun s => o (F s)) := fun v hv => (a v hv).op1 o
theorem bitsF_set (a n v : Nat) : ∀ m, SetF (bitsF a 0 n v m)
  | 0 => SetF.const true
  | m + 1 => SetF.lit (by omega) _ (bitsF_set a n v m)
theorem reachF_set (a n v : Nat) (up : Bool) : ∀ m, SetF (reachF a n v up m)
  | 0 => SetF.const true
  | m + 1 => SetF.step (by omega) _ _ (reachF_set a n v up m)
theorem spanF_set (a n lo hi : Nat) : SetF (spanF a n lo hi) := (reachF_set a n lo true n).op2 (fun x y => x && y) (reachF_set a n hi false n)
theorem askF_set (r : RuleV) : ∀ k, SetF (askF r k)
  | 0 => bitsF_set _ _ _ _
  | 1 => bitsF_set _ _ _ _
  | 2 => spanF_set _ _ _ _
  | 3 => spanF_set _ _ _ _
  | _ + 4 => spanF_set _ _ _ _
theorem ruleK_set (r : RuleV) : ∀ k, SetF (ruleK r k)
  | 0 => SetF.const true
  | k + 1 => (ruleK_set r k).op2 (fun x y => x && y) (askF_set r k)
theorem Tryz.infoFn0 : (Tryz.prog.info? 95).map (fun i => (i.zero, i.size, i.bytes)) = some (some .nilFunc, 1, 8) := by kernel_rfl
def askV (sb rb : Nat) : Nat → Value
  | 0 => .func (.func 108) #[] #[.pointer (some ⟨sb, 0, none⟩), .pointer (some ⟨rb, 0, none⟩)]
  | 1 => .func (.func 109) #[] #[.pointer (some ⟨sb, 0, none⟩), .pointer (some ⟨rb, 0, none⟩)]
  | 2 => .func (.func 110) #[] #[.pointer (some ⟨sb, 0, none⟩), .pointer (some ⟨rb, 0, none⟩)]
  | 3 => .func (.func 111) #[] #[.pointer (some ⟨sb, 0, none⟩), .pointer (some ⟨rb, 0, none⟩)]
  | _ => .func (.func 112) #[] #[.pointer (some ⟨sb, 0, none⟩), .pointer (some ⟨rb, 0, none⟩)]
section
variable {w : World} {B S km : Nat} {A : Blks} {Mo : Nat} {σ : Sg}
set_option maxRecDepth 100000
set_option maxHeartbeats 4000000
/-- An ask, whichever it is. -/
theorem ask_yes (r : RuleV) (ok : RuleOk r) (sb rb k : Nat) (hk : k < asksN r) : ∃ fid, askV sb rb k = .func (.func fid) #[] #[.pointer (some ⟨sb, 0, none⟩), .pointer (some ⟨rb, 0, none⟩)] ∧ (∀ (args : Array Value) (w : World), (callFunc fid args).run Tryz.prog w = .ok (.enter fid args) w) ∧
    ∀ (w : World) (τ : Sg), SpOk w B S km A Mo τ → AskBox w S sb rb r → τ.N.length + 1216 ≤ 2147483647 → Calls Tryz.prog fid #[.pointer (some ⟨sb, 0, none⟩), .pointer (some ⟨rb, 0, none⟩)] w (SpRes w B S km A Mo τ (askF r k) 1216 1216) := by
  have h5 : asksN r ≤ 5 := by unfold asksN; split <;> omega
  obtain rfl | rfl | rfl | rfl | rfl : k = 0 ∨ k = 1 ∨ k = 2 ∨ k = 3 ∨ k = 4 := by omega
  · exact ⟨_, rfl, fun _ _ => by go_simp, fun w τ h hb hl => ask0_yes h r ok sb rb hb hl⟩
  · exact ⟨_, rfl, fun _ _ => by go_simp, fun w τ h hb hl => ask1_yes h r ok sb rb hb hl⟩
  · exact ⟨_, rfl, fun _ _ => by go_simp, fun w τ h hb hl => ask2_yes h r ok sb rb hb hl⟩
  · exact ⟨_, rfl, fun _ _ => by go_simp, fun w τ h hb hl => ask3_yes h r ok sb rb hb hl⟩
  · have hp : 0 ≤ r.proto := by unfold asksN at hk; split at hk <;> omega
    exact ⟨_, rfl, fun _ _ => by go_simp, fun w τ h hb hl => ask4_yes h r ok hp sb rb hb hl⟩
end
end Go.Proofs.YtbahehmfhjkgeaaGreat

/-
  Rules that are the same but for what they say of headers that fit.
-/
namespace Go.Proofs.YtbahehmfhjkgeaaGreat
open Go Go.RowKit Go.ChangeMaps Go.MapKept Go.Maps Go.Lib Go.Sort

theorem eqPrefD (a m b n : Int) (d : Nat) (w : World) : (Op.equalIn (d + 1 + 1) 39 (.agg #[.int .u32 a, .int .i64 m]) (.agg #[.int .u32 b, .int .i64 n])).run Tryz.prog w = .ok (decide (a = b) && decide (m = n)) w := by
  have hS : Tryz.prog.underlying 39 = some (.struct (Tryz.prog.fieldsOf 39)) := by kernel_rfl
  have hp : Tryz.prog.stoodInHeld 39 = false := by kernel_rfl
  have a1 := Tryz.underlying37
  have a2 := Tryz.isAgg37
  have a3 := Tryz.sizeOf37
  have b1 := Tryz.underlying3
  have b2 := Tryz.isAgg3
  have b3 := Tryz.sizeOf3
  by_cases h1 : a = b
  · by_cases h2 : m = n
    · subst h1 h2
      rw [run_equalIn_agg w (d + 1) 39 _ _ hS hp]
      simp only [Program.fieldsOf, Tryz.underlying39]
      go_simp
    · subst h1
      rw [run_equalIn_agg w (d + 1) 39 _ _ hS hp]
      simp only [Program.fieldsOf, Tryz.underlying39]
      go_simp
  · rw [run_equalIn_agg w (d + 1) 39 _ _ hS hp]
    simp only [Program.fieldsOf, Tryz.underlying39]
    go_simp
theorem eqSpanD (a m b n : Int) (d : Nat) (w : World) : (Op.equalIn (d + 1 + 1) 41 (.agg #[.int .u32 a, .int .u32 m]) (.agg #[.int .u32 b, .int .u32 n])).run Tryz.prog w = .ok (decide (a = b) && decide (m = n)) w := by
  have hS : Tryz.prog.underlying 41 = some (.struct (Tryz.prog.fieldsOf 41)) := by kernel_rfl
  have hp : Tryz.prog.stoodInHeld 41 = false := by kernel_rfl
  have a1 := Tryz.underlying36
  have a2 := Tryz.isAgg36
  have a3 := Tryz.sizeOf36
  by_cases h1 : a = b
  · by_cases h2 : m = n
    · subst h1 h2
      rw [run_equalIn_agg w (d + 1) 41 _ _ hS hp]
      simp only [Program.fieldsOf, Tryz.underlying41]
      go_simp
    · subst h1
      rw [run_equalIn_agg w (d + 1) 41 _ _ hS hp]
      simp only [Program.fieldsOf, Tryz.underlying41]
      go_simp
  · rw [run_equalIn_agg w (d + 1) 41 _ _ hS hp]
    simp only [Program.fieldsOf, Tryz.underlying41]
    go_simp
/-- The same rule. -/
def sameR (x y : RuleV) : Bool := (x.permit == y.permit) && decide (x.proto = y.proto) && (decide (x.sa = y.sa) && decide (x.sn = y.sn)) && (decide (x.da = y.da) && decide (x.dn = y.dn)) && (decide (x.sl = y.sl) && decide (x.sh = y.sh)) && (decide (x.dl = y.dl) && decide (x.dh = y.dh))
theorem eqRuleD (x y : RuleV) (w : World) : (binOp .eql 43 (.agg #[.bool x.permit, .int .i64 x.proto, .int .u32 x.sa, .int .i64 x.sn, .int .u32 x.da, .int .i64 x.dn, .int .u32 x.sl, .int .u32 x.sh, .int .u32 x.dl, .int .u32 x.dh]) (.agg #[.bool y.permit, .int .i64 y.proto, .int .u32 y.sa, .int .i64 y.sn, .int .u32 y.da, .int .i64 y.dn, .int .u32 y.sl, .int .u32 y.sh, .int .u32 y.dl, .int .u32 y.dh])).run Tryz.prog w = .ok (.bool (sameR x y)) w := by
  have hS : Tryz.prog.underlying 43 = some (.struct (Tryz.prog.fieldsOf 43)) := by kernel_rfl
  have hp : Tryz.prog.stoodInHeld 43 = false := by kernel_rfl
  have b1 := Tryz.underlying3
  have b2 := Tryz.isAgg3
  have b3 := Tryz.sizeOf3
  have c1 := Tryz.underlying4
  have c2 := Tryz.isAgg4
  have c3 := Tryz.sizeOf4
  have d2 := Tryz.isAgg39
  have d3 := Tryz.sizeOf39
  have e2 := Tryz.isAgg41
  have e3 := Tryz.sizeOf41
  rw [run_eql_struct, show (10000 : Nat) = 9997 + 1 + 1 + 1 from rfl, run_equalIn_agg w (9997 + 1 + 1) 43 _ _ hS hp]
  generalize 9997 = d
  have E1 := fun w => eqPrefD x.sa x.sn y.sa y.sn d w
  have E2 := fun w => eqPrefD x.da x.dn y.da y.dn d w
  have E3 := fun w => eqSpanD x.sl x.sh y.sl y.sh d w
  have E4 := fun w => eqSpanD x.dl x.dh y.dl y.dh d w
  simp only [Program.fieldsOf, Tryz.underlying43]
  unfold sameR
  generalize (decide (x.sa = y.sa) && decide (x.sn = y.sn)) = P1 at *
  generalize (decide (x.da = y.da) && decide (x.dn = y.dn)) = P2 at *
  generalize (decide (x.sl = y.sl) && decide (x.sh = y.sh)) = P3 at *
  generalize (decide (x.dl = y.dl) && decide (x.dh = y.dh)) = P4 at *
  generalize x.permit = q1 at *
  generalize y.permit = q2 at *
  by_cases hq : q1 = q2
  · subst hq
    by_cases hp2 : x.proto = y.proto
    · rw [hp2]
      have e1 : (y.proto == y.proto) = true := by simp
      cases P1
      · cases q1 <;> go_simp
      · cases P2
        · cases q1 <;> go_simp
        · cases P3
          · cases q1 <;> go_simp
          · cases P4 <;> cases q1 <;> go_simp
    · have e1 : (x.proto == y.proto) = false := by simpa using hp2
      cases q1 <;> go_simp
  · cases q1 <;> cases q2
    · exact absurd rfl hq
    · go_simp
    · go_simp
    · exact absurd rfl hq
theorem rulesEq_any (x y : RuleV) (bx : Nat) (w : World) (hb : w.heap[bx]? = some (.cells #[.bool y.permit, .int .i64 y.proto, .int .u32 y.sa, .int .i64 y.sn, .int .u32 y.da, .int .i64 y.dn, .int .u32 y.sl, .int .u32 y.sh, .int .u32 y.dl, .int .u32 y.dh] 43 (0, 0))) :
    Calls Tryz.prog 50 #[.agg #[.bool x.permit, .int .i64 x.proto, .int .u32 x.sa, .int .i64 x.sn, .int .u32 x.da, .int .i64 x.dn, .int .u32 x.sl, .int .u32 x.sh, .int .u32 x.dl, .int .u32 x.dh], .pointer (some ⟨bx, 0, none⟩)] w fun e w' => e = .returned (.bool (sameR x y)) ∧ Below w.heap.size w w' := by
  have hbw := below1 w (.cells #[.bool x.permit, .int .i64 x.proto, .int .u32 x.sa, .int .i64 x.sn, .int .u32 x.da, .int .i64 x.dn, .int .u32 x.sl, .int .u32 x.sh, .int .u32 x.dl, .int .u32 x.dh] 43)
  have hk := blk1 w (.cells #[.bool x.permit, .int .i64 x.proto, .int .u32 x.sa, .int .i64 x.sn, .int .u32 x.da, .int .i64 x.dn, .int .u32 x.sl, .int .u32 x.sh, .int .u32 x.dl, .int .u32 x.dh] 43)
  have hy := blk_below hbw hb
  have HEQ := eqRuleD x y
  have HB := Lib.hid hbw
  go_enter Tryz.func50, Tryz.ntmps50
  go_upto_region 1 with fail
  clear hbw
  generalize w.alloc (.cells #[.bool x.permit, .int .i64 x.proto, .int .u32 x.sa, .int .i64 x.sn, .int .u32 x.da, .int .i64 x.dn, .int .u32 x.sl, .int .u32 x.sh, .int .u32 x.dl, .int .u32 x.dh] 43) = w1 at *
  have x0 : w1.cell? ⟨w.heap.size, 0, none⟩ = some (.bool x.permit) := cell_of_row _ _ 0 _ _ (0, 0) hk
  have x1 : w1.cell? ⟨w.heap.size, 1, none⟩ = some (.int .i64 x.proto) := cell_of_row _ _ 1 _ _ (0, 0) hk
  have x2 : w1.cell? ⟨w.heap.size, 2, none⟩ = some (.int .u32 x.sa) := cell_of_row _ _ 2 _ _ (0, 0) hk
  have x3 : w1.cell? ⟨w.heap.size, 3, none⟩ = some (.int .i64 x.sn) := cell_of_row _ _ 3 _ _ (0, 0) hk
  have x4 : w1.cell? ⟨w.heap.size, 4, none⟩ = some (.int .u32 x.da) := cell_of_row _ _ 4 _ _ (0, 0) hk
  have x5 : w1.cell? ⟨w.heap.size, 5, none⟩ = some (.int .i64 x.dn) := cell_of_row _ _ 5 _ _ (0, 0) hk
  have x6 : w1.cell? ⟨w.heap.size, 6, none⟩ = some (.int .u32 x.sl) := cell_of_row _ _ 6 _ _ (0, 0) hk
  have x7 : w1.cell? ⟨w.heap.size, 7, none⟩ = some (.int .u32 x.sh) := cell_of_row _ _ 7 _ _ (0, 0) hk
  have x8 : w1.cell? ⟨w.heap.size, 8, none⟩ = some (.int .u32 x.dl) := cell_of_row _ _ 8 _ _ (0, 0) hk
  have x9 : w1.cell? ⟨w.heap.size, 9, none⟩ = some (.int .u32 x.dh) := cell_of_row _ _ 9 _ _ (0, 0) hk
  have y0 : w1.cell? ⟨bx, 0, none⟩ = some (.bool y.permit) := cell_of_row _ _ 0 _ _ (0, 0) hy
  have y1 : w1.cell? ⟨bx, 1, none⟩ = some (.int .i64 y.proto) := cell_of_row _ _ 1 _ _ (0, 0) hy
  have y2 : w1.cell? ⟨bx, 2, none⟩ = some (.int .u32 y.sa) := cell_of_row _ _ 2 _ _ (0, 0) hy
  have y3 : w1.cell? ⟨bx, 3, none⟩ = some (.int .i64 y.sn) := cell_of_row _ _ 3 _ _ (0, 0) hy
  have y4 : w1.cell? ⟨bx, 4, none⟩ = some (.int .u32 y.da) := cell_of_row _ _ 4 _ _ (0, 0) hy
  have y5 : w1.cell? ⟨bx, 5, none⟩ = some (.int .i64 y.dn) := cell_of_row _ _ 5 _ _ (0, 0) hy
  have y6 : w1.cell? ⟨bx, 6, none⟩ = some (.int .u32 y.sl) := cell_of_row _ _ 6 _ _ (0, 0) hy
  have y7 : w1.cell? ⟨bx, 7, none⟩ = some (.int .u32 y.sh) := cell_of_row _ _ 7 _ _ (0, 0) hy
  have y8 : w1.cell? ⟨bx, 8, none⟩ = some (.int .u32 y.dl) := cell_of_row _ _ 8 _ _ (0, 0) hy
  have y9 : w1.cell? ⟨bx, 9, none⟩ = some (.int .u32 y.dh) := cell_of_row _ _ 9 _ _ (0, 0) hy
  clear hk hy hb
  go_wp2
  go_ret
  exact ⟨rfl, HB.out⟩
end Go.Proofs.YtbahehmfhjkgeaaGreat

/-
  A filter's rules, one behind the other: what is left, what each decides; the rows that the walk keeps.
-/
namespace Go.Proofs.YtbahehmfhjkgeaaGreat
open Go Go.RowKit Go.ChangeMaps Go.MapKept Go.Maps Go.Lib Go.Sort

def ruleAt (L : List RuleV) (k : Nat) : Fun := fun s => (L[k]?.map fun r => ruleF r s).getD false
/-- What the first k rules leave; what rule k decides. -/
def leftF (L : List RuleV) (k : Nat) : Fun := fun s => !(L.take k).any fun r => ruleF r s
def decF (L : List RuleV) (k : Nat) : Fun := fun s => leftF L k s && ruleAt L k s
theorem ruleAt_eq {L : List RuleV} {k : Nat} {r : RuleV} (h : L[k]? = some r) : ruleAt L k = ruleF r := funext fun s => by unfold ruleAt; rw [h]; rfl
theorem leftF_succ {L : List RuleV} {k : Nat} {r : RuleV} (h : L[k]? = some r) : leftF L (k + 1) = fun s => leftF L k s && !ruleF r s := funext fun s => by
  unfold leftF
  rw [List.take_add_one, h]
  simp [List.any_append]
theorem decF_eq {L : List RuleV} {k : Nat} {r : RuleV} (h : L[k]? = some r) : decF L k = fun s => leftF L k s && ruleF r s := funext fun s => by
  unfold decF
  rw [ruleAt_eq h]
theorem leftF_set (L : List RuleV) : ∀ k, SetF (leftF L k) := by
  intro k
  induction k with
  | zero => exact SetF.const true
  | succ k ih =>
    cases h : L[k]? with
    | none =>
      have e : leftF L (k + 1) = leftF L k := by unfold leftF; rw [List.take_add_one, h]; simp
      rw [e]; exact ih
    | some r =>
      rw [leftF_succ h]
      exact ih.op2 (fun x y => x && !y) (ruleK_set r _)
theorem decF_set {L : List RuleV} {k : Nat} {r : RuleV} (h : L[k]? = some r) : SetF (decF L k) := by
  rw [decF_eq h]
  exact (leftF_set L k).op2 (fun x y => x && y) (ruleK_set r _)
/-- A rule that denies, the same otherwise. -/
def anyR (r : RuleV) : RuleV := ⟨false, r.proto, r.sa, r.sn, r.da, r.dn, r.sl, r.sh, r.dl, r.dh, r.hpr, r.hsa, r.hda, r.hsl, r.hsh, r.hdl, r.hdh⟩
theorem askF_any (r : RuleV) : ∀ k, askF (anyR r) k = askF r k
  | 0 => rfl
  | 1 => rfl
  | 2 => rfl
  | 3 => rfl
  | _ + 4 => rfl
theorem ruleK_any (r : RuleV) : ∀ k, ruleK (anyR r) k = ruleK r k
  | 0 => rfl
  | k + 1 => by
    show (fun s => ruleK (anyR r) k s && askF (anyR r) k s) = fun s => ruleK r k s && askF r k s
    rw [ruleK_any r k, askF_any]
theorem ruleF_any (r : RuleV) : ruleF (anyR r) = ruleF r := ruleK_any r _
theorem sameR_eq {x y : RuleV} (h : sameR x y = true) : x = y := by
  unfold sameR at h
  simp only [Bool.and_eq_true, decide_eq_true_eq, beq_iff_eq] at h
  obtain ⟨⟨⟨⟨⟨h1, h2⟩, h3, h4⟩, h5, h6⟩, h7, h8⟩, h9, h10⟩ := h
  cases x; cases y
  simp only at h1 h2 h3 h4 h5 h6 h7 h8 h9 h10
  subst h1 h2 h3 h4 h5 h6 h7 h8 h9 h10
  rfl
/-- Nodes in a row. -/
def ncl (ns : List Nat) : List Value := ns.map fun (n : Nat) => Value.int .i64 (n : Int)
/-- The row's block is none of the space's. -/
def OwnF (A : Blks) (km S : Nat) (w : World) (v : Value) : Prop := ∀ g, v.ownBlock = some g → Foreign A w g ∧ g ≠ km ∧ g ≠ S
/-- A list that came in, in a block that is none of the space's. -/
def RdF (A : Blks) (km : Nat) (w : World) (k : Nat) (v : Value) (n : Nat) (xs : List Value) : Prop :=
  ∃ (P : Option Addr) (c : Nat), v = .slice P n c ∧ n ≤ c ∧ xs.length = n * k ∧ (0 < n → ∃ b off, P = some ⟨b, off, none⟩ ∧ Foreign A w b ∧ b ≠ km ∧ ∀ j u, xs[j]? = some u → w.cell? ⟨b, off + j, none⟩ = some u)
theorem RdF.rd {A : Blks} {km : Nat} {w : World} {k : Nat} {v : Value} {n : Nat} {xs : List Value} (h : RdF A km w k v n xs) : Rd w w.heap.size k v n xs := by
  obtain ⟨P, c, h1, h2, h3, h4⟩ := h
  exact ⟨P, c, h1, h2, h3, fun hn => by obtain ⟨b, off, e, f, _, g⟩ := h4 hn; exact ⟨b, off, e, f.1, g⟩⟩
theorem RdF.kept {A : Blks} {km : Nat} {w w' : World} {k : Nat} {v : Value} {n : Nat} {xs : List Value} (h : RdF A km w k v n xs) (hk : KeptS A km w w') : RdF A km w' k v n xs := by
  obtain ⟨P, c, h1, h2, h3, h4⟩ := h
  refine ⟨P, c, h1, h2, h3, fun hn => ?_⟩
  obtain ⟨b, off, e, f, f2, g⟩ := h4 hn
  exact ⟨b, off, e, (hk.same b f f2).2, f2, fun j u hu => (World.cell?_of_block (hk.same b f f2).1).trans (g j u hu)⟩
section
variable {w0 wr : World} {B S km : Nat} {A : Blks} {Mo : Nat} {τ : Sg}
/-- The space where blocks of others turned. -/
theorem SpOk.others {w w' : World} (h : SpOk w B S km A Mo τ) {r : Option Nat} (hg : w.grownBy w' r) (hr : ∀ g, r = some g → Foreign A w g ∧ g ≠ km ∧ g ≠ S) :
    SpOk w' B S km A Mo τ ∧ (∀ k, Foreign A w k → Foreign A w' k) ∧ ∀ k, w.heap.size ≤ k → k < w'.heap.size → Foreign A w' k ∧ k ≠ km ∧ k ≠ S := by
  obtain ⟨nv, hA⟩ := h.sp.ar
  obtain ⟨a1, a2, a3⟩ := hA.calm hg.size fun k hk hn => hg.block k hk (fun e => hn (hr k e.symm).1)
  have hkm := h.sp.fk.1
  have hS := lt_of_block h.sp.cells
  exact ⟨⟨⟨⟨nv, a1⟩, (hg.block S hS (fun e => (hr S e.symm).2.2 rfl)).trans h.sp.cells, a2 _ h.sp.fs, h.sp.known.same (hg.block km hkm (fun e => (hr km e.symm).2.1 rfl)), a2 _ h.sp.fk, h.sp.ne⟩, h.ok⟩, a2, fun k h1 h2 => ⟨a3 k h1 h2, by omega, by omega⟩⟩
theorem KeptS.others {w w' w0 : World} (h : KeptS A km w0 w) {r : Option Nat} (hg : w.grownBy w' r) (hs : ∀ g, r = some g → w0.heap.size ≤ g) (hf : ∀ k, Foreign A w k → Foreign A w' k) : KeptS A km w0 w' :=
  ⟨hg.os.trans h.os, hg.tape.trans h.tape, hg.output.trans h.output, Nat.le_trans h.size hg.size, fun k hk hn => ⟨(hg.block k (Nat.lt_of_lt_of_le hk.1 h.size) (fun e => by have := hs k e.symm; have := hk.1; omega)).trans (h.same k hk hn).1, hf k (h.same k hk hn).2⟩⟩
/-- What the walk of the rules keeps: the space, the row of what is decided, the row of the rules that were seen. -/
structure RuSt (w0 wr : World) (B S km : Nat) (A : Blks) (Mo : Nat) (τ : Sg) (ov : Value) (ns : List Nat) (sv : Value) (D : List RuleV) : Prop where
  sp : SpOk wr B S km A Mo τ
  kept : KeptS A km w0 wr
  out : wr.ownsRow w0.heap.size 3 1 ov ns.length (ncl ns)
  outf : OwnF A km S wr ov
  seen : wr.ownsRow w0.heap.size 43 10 sv D.length (rcells D)
  seenf : OwnF A km S wr sv
  dis : ∀ g, ov.ownBlock = some g → sv.ownBlock ≠ some g
theorem RuSt.space {ov sv : Value} {ns : List Nat} {D : List RuleV} {w' : World} {τ' : Sg} (h : RuSt w0 wr B S km A Mo τ ov ns sv D) (k : KeptS A km wr w') (s : SpOk w' B S km A Mo τ') : RuSt w0 w' B S km A Mo τ' ov ns sv D :=
  ⟨s, h.kept.trans k, owns_like h.out fun g hg => (k.same g (h.outf g hg).1 (h.outf g hg).2.1).1, fun g hg => ⟨(k.same g (h.outf g hg).1 (h.outf g hg).2.1).2, (h.outf g hg).2⟩,
    owns_like h.seen fun g hg => (k.same g (h.seenf g hg).1 (h.seenf g hg).2.1).1, fun g hg => ⟨(k.same g (h.seenf g hg).1 (h.seenf g hg).2.1).2, (h.seenf g hg).2⟩, h.dis⟩
theorem RuSt.below {ov sv : Value} {ns : List Nat} {D : List RuleV} {w' : World} (h : RuSt w0 wr B S km A Mo τ ov ns sv D) (hb : Below wr.heap.size wr w') : RuSt w0 w' B S km A Mo τ ov ns sv D := h.space (h.sp.kept hb) (h.sp.below hb)
theorem RuSt.start (h : SpOk w0 B S km A Mo τ) : RuSt w0 w0 B S km A Mo τ (.slice none 0 0) [] (.slice none 0 0) [] :=
  ⟨h, KeptS.refl _ _ _, World.ownsRow_nil _ _ _ _, fun g hg => by simp [Value.ownBlock] at hg, World.ownsRow_nil _ _ _ _, fun g hg => by simp [Value.ownBlock] at hg, fun g hg => by simp [Value.ownBlock] at hg⟩
theorem OwnF.pushed {w w' : World} {v v' : Value} (h : OwnF A km S w v) (hf : ∀ k, Foreign A w k → Foreign A w' k) (hn : ∀ k, w.heap.size ≤ k → k < w'.heap.size → Foreign A w' k ∧ k ≠ km ∧ k ≠ S) (hm : Moved v v' w.heap.size) (hl : ∀ g, v'.ownBlock = some g → g < w'.heap.size) : OwnF A km S w' v' := fun g hg => by
  rcases hm with hm | hm
  · have := h g (by rw [← hm]; exact hg)
    exact ⟨hf g this.1, this.2⟩
  · exact hn g (hm g hg) (hl g hg)
theorem RuSt.pushOut {ov sv ov' : Value} {ns : List Nat} {D : List RuleV} {w' : World} {n : Nat} (h : RuSt w0 wr B S km A Mo τ ov ns sv D) (ho : w'.ownsRow w0.heap.size 3 1 ov' (ns.length + 1) (ncl ns ++ [.int .i64 (n : Int)])) (hg : wr.grownBy w' ov.ownBlock) (hm : Moved ov ov' wr.heap.size) :
    RuSt w0 w' B S km A Mo τ ov' (ns ++ [n]) sv D := by
  obtain ⟨s1, s2, s3⟩ := h.sp.others hg h.outf
  have hk := h.kept.others hg (fun g hg => (h.out.lt g hg).1) s2
  have hsame : ∀ g, sv.ownBlock = some g → w'.heap[g]? = wr.heap[g]? := fun g hgs => hg.block g (h.seen.lt g hgs).2 (fun e => h.dis g e.symm hgs)
  refine ⟨s1, hk, ?_, h.outf.pushed s2 s3 hm (fun g hg => (ho.lt g hg).2), owns_like h.seen hsame, fun g hgs => ⟨s2 g (h.seenf g hgs).1, (h.seenf g hgs).2⟩, fun g hgo hgs => ?_⟩
  · rw [List.length_append]
    have e : ncl (ns ++ [n]) = ncl ns ++ [.int .i64 (n : Int)] := by simp [ncl]
    rw [e]
    exact ho
  · rcases hm with hm | hm
    · exact h.dis g (by rw [← hm]; exact hgo) hgs
    · have := hm g hgo
      have := (h.seen.lt g hgs).2
      omega
theorem RuSt.pushSeen {ov sv sv' : Value} {ns : List Nat} {D : List RuleV} {w' : World} {r : RuleV} (h : RuSt w0 wr B S km A Mo τ ov ns sv D) (ho : w'.ownsRow w0.heap.size 43 10 sv' (D.length + 1) (rcells D ++ r.enc)) (hg : wr.grownBy w' sv.ownBlock) (hm : Moved sv sv' wr.heap.size) :
    RuSt w0 w' B S km A Mo τ ov ns sv' (D ++ [r]) := by
  obtain ⟨s1, s2, s3⟩ := h.sp.others hg h.seenf
  have hk := h.kept.others hg (fun g hg => (h.seen.lt g hg).1) s2
  have hsame : ∀ g, ov.ownBlock = some g → w'.heap[g]? = wr.heap[g]? := fun g hgo => hg.block g (h.out.lt g hgo).2 (fun e => h.dis g hgo e.symm)
  refine ⟨s1, hk, owns_like h.out hsame, fun g hgo => ⟨s2 g (h.outf g hgo).1, (h.outf g hgo).2⟩, ?_, h.seenf.pushed s2 s3 hm (fun g hg => (ho.lt g hg).2), fun g hgo hgs => ?_⟩
  · rw [List.length_append]
    have e : rcells (D ++ [r]) = rcells D ++ r.enc := by simp [rcells]
    rw [e]
    exact ho
  · rcases hm with hm | hm
    · exact h.dis g hgo (by rw [← hm]; exact hgs)
    · have := hm g hgs
      have := (h.out.lt g hgo).2
      omega
end
end Go.Proofs.YtbahehmfhjkgeaaGreat

/-
  The sets for which each rule of a filter decides (written by wip/gen/genfr5.py).
-/
namespace Go.Proofs.YtbahehmfhjkgeaaGreat
open Go Go.RowKit Go.ChangeMaps Go.MapKept Go.Maps Go.Lib Go.Sort

/-- What Rules comes to: a node for each rule, or no room. -/
def RulesRes (w : World) (B S km : Nat) (A : Blks) (Mo : Nat) (σ : Sg) (L : List RuleV) (k : Nat) (e : Ending) (w' : World) : Prop :=
  KeptS A km w w' ∧ ((e = .returned (.tuple #[.slice none 0 0, .int .i64 3]) ∧ Mo < σ.H.length + k ∧ ∃ τ, SpOk w' B S km A Mo τ ∧ To k k σ τ) ∨
    ∃ (v : Value) (ns : List Nat) (τ : Sg), e = .returned (.tuple #[v, .int .i64 0]) ∧ SpOk w' B S km A Mo τ ∧ To k k σ τ ∧ ns.length = L.length ∧ (∀ i n, ns[i]? = some n → Den τ n (decF L i)) ∧ w'.ownsRow w.heap.size 3 1 v ns.length (ncl ns) ∧ OwnF A km S w' v)
theorem RulesRes.full {w w' : World} {B S km : Nat} {A : Blks} {Mo : Nat} {σ τ : Sg} {L : List RuleV} {k : Nat} {e : Ending} (hk : KeptS A km w w') (h1 : e = .returned (.tuple #[.slice none 0 0, .int .i64 3])) (h2 : Mo < σ.H.length + k) (h3 : SpOk w' B S km A Mo τ) (h4 : To k k σ τ) : RulesRes w B S km A Mo σ L k e w' := ⟨hk, .inl ⟨h1, h2, τ, h3, h4⟩⟩
/-- How much a filter's diagrams may take, rule by rule. -/
def FiltW (L : List RuleV) (K : Nat) : Prop := ∀ (k : Nat) (r : RuleV), L[k]? = some r → (∀ j, j ≤ 5 → Wid (ruleK r j) K) ∧ Wid (decF L k) K ∧ Wid (leftF L (k + 1)) K
theorem rule_may {L : List RuleV} (he : filtE L = 0) : L.length ≤ 256 ∧ ∀ (k : Nat) (r : RuleV), L[k]? = some r → RuleOk r := by
  unfold filtE at he
  split at he
  · cases he
  · split at he
    · cases he
    · rename_i h1 h2
      refine ⟨by omega, fun k r hr => RuleOk.of ?_⟩
      simp only [List.any_eq_true, not_exists, not_and, Bool.not_eq_true'] at h2
      have := h2 r (List.mem_of_getElem? hr)
      simpa using this
theorem den_snoc {τ : Sg} {ns : List Nat} {F : Nat → Fun} {k n : Nat} (h : ∀ i m, ns[i]? = some m → Den τ m (F i)) (hk : ns.length = k) (hd : Den τ n (F k)) : ∀ i m, (ns ++ [n])[i]? = some m → Den τ m (F i) := fun i m hi => by
  rcases Nat.lt_or_ge i ns.length with h1 | h1
  · rw [List.getElem?_append_left h1] at hi
    exact h i m hi
  · rw [List.getElem?_append_right h1] at hi
    have h2 : i = ns.length := by
      have := (List.getElem?_eq_some_iff.1 hi).1
      simp at this
      omega
    subst h2
    rw [Nat.sub_self] at hi
    simp at hi
    subst hi
    rw [hk]
    exact hd
theorem rulesEq_pred (y : RuleV) (bx : Nat) (w : World) (hb : w.heap[bx]? = some (.cells #[.bool y.permit, .int .i64 y.proto, .int .u32 y.sa, .int .i64 y.sn, .int .u32 y.da, .int .i64 y.dn, .int .u32 y.sl, .int .u32 y.sh, .int .u32 y.dl, .int .u32 y.dh] 43 (0, 0))) : PredBelow Tryz.prog 50 #[.pointer (some ⟨bx, 0, none⟩)] (fun x : RuleV => .agg x.enc.toArray) (fun x => sameR x y) w := fun W x hW =>
  (rulesEq_any x y bx W (blk_below hW hb)).mono fun _ _ ⟨he, hb'⟩ => ⟨he, hW.trans (hb'.mono hW.size)⟩
theorem Tryz.infoRuleF : (Tryz.prog.info? 43).map (fun i => (i.zero, i.size, i.bytes)) = some (some (.agg #[.bool false, .int .i64 0, .int .u32 0, .int .i64 0, .int .u32 0, .int .i64 0, .int .u32 0, .int .u32 0, .int .u32 0, .int .u32 0]), 10, 64) := by kernel_rfl
section
variable {w : World} {B S km : Nat} {A : Blks} {Mo : Nat} {σ : Sg}
set_option maxRecDepth 100000
set_option maxHeartbeats 8000000
end
end Go.Proofs.YtbahehmfhjkgeaaGreat

/-
  What a filter permits, as a set; the refusals.
-/
namespace Go.Proofs.YtbahehmfhjkgeaaGreat
open Go Go.RowKit Go.ChangeMaps Go.MapKept Go.Maps Go.Lib Go.Sort

def permitAt (L : List RuleV) (k : Nat) : Bool := (L[k]?.map (·.permit)).getD false
/-- What the first k rules permit. -/
def setF (L : List RuleV) : Nat → Fun
  | 0 => fun _ => false
  | k + 1 => if permitAt L k then fun s => setF L k s || decF L k s else setF L k
theorem decF_set' (L : List RuleV) (k : Nat) : SetF (decF L k) := by
  cases h : L[k]? with
  | none =>
    have e : decF L k = fun _ => false := funext fun s => by unfold decF ruleAt; rw [h]; simp
    rw [e]
    exact SetF.const false
  | some r => exact decF_set h
theorem setF_set (L : List RuleV) : ∀ k, SetF (setF L k)
  | 0 => SetF.const false
  | k + 1 => by
    unfold setF
    split
    · exact (setF_set L k).op2 (fun x y => x || y) (decF_set' L k)
    · exact setF_set L k
section
variable {w : World} {B S km : Nat} {A : Blks} {Mo : Nat} {σ : Sg}
set_option maxRecDepth 100000
set_option maxHeartbeats 8000000
end
end Go.Proofs.YtbahehmfhjkgeaaGreat

/-
  Rules as boxes: how many nodes their sets have at most (plain).
-/
namespace Go.Proofs.YtbahehmfhjkgeaaGreat
open Go Go.RowKit Go.ChangeMaps Go.MapKept Go.Maps Go.Lib Go.Sort

/-- A box of headers. -/
structure Bx where
  l1 : Nat
  p1 : Nat
  l2 : Nat
  p2 : Nat
  any : Bool
  v : Nat
  lo : Nat
  hi : Nat
  lo2 : Nat
  hi2 : Nat
def boxP (b : Bx) (s : Nat → Bool) : Bool := (valF 0 s 32 / 2 ^ (32 - b.l1) == b.p1) && (valF 32 s 32 / 2 ^ (32 - b.l2) == b.p2) && (b.any || valF 64 s 8 == b.v) && (decide (b.lo ≤ valF 72 s 16) && decide (valF 72 s 16 ≤ b.hi)) && (decide (b.lo2 ≤ valF 88 s 16) && decide (valF 88 s 16 ≤ b.hi2))
def boxFs (B : Nat → Bx) : List Fd := [preFd 0 32 (fun i => (B i).l1) (fun i => (B i).p1), preFd 32 32 (fun i => (B i).l2) (fun i => (B i).p2), ptFd 64 8 (fun i => (B i).any) (fun i => (B i).v), ivFd 72 16 (fun i => (B i).lo) (fun i => (B i).hi), ivFd 88 16 (fun i => (B i).lo2) (fun i => (B i).hi2)]
theorem box_alive (B : Nat → Bx) (T : List Nat) (s : Nat → Bool) : aliveL (boxFs B) T s = T.filter fun i => boxP (B i) s := by
  show ((((T.filter _).filter _).filter _).filter _).filter _ = _
  simp only [List.filter_filter]
  refine List.filter_congr fun i _ => ?_
  simp only [ivFd, ptFd, preFd, ivP, ptP, preP, boxP]
  generalize (valF 0 s 32 / 2 ^ (32 - (B i).l1) == (B i).p1) = a
  generalize (valF 32 s 32 / 2 ^ (32 - (B i).l2) == (B i).p2) = b
  generalize ((B i).any || valF 64 s 8 == (B i).v) = c
  generalize (decide ((B i).lo ≤ valF 72 s 16) && decide (valF 72 s 16 ≤ (B i).hi)) = d
  generalize (decide ((B i).lo2 ≤ valF 88 s 16) && decide (valF 88 s 16 ≤ (B i).hi2)) = e
  cases a <;> cases b <;> cases c <;> cases d <;> cases e <;> rfl
/-- The bound for k boxes. -/
def bW (k : Nat) : Nat := 32 * (1 * k) + (32 * (1 * preL idN k) + (8 * (1 * preL (preL idN) k) + (16 * (2 * preL (preL (ptL idN)) k) + (16 * (2 * preL (preL (ptL (ivL idN))) k) + 0))))
theorem box_wid (B : Nat → Bx) (T : List Nat) (Φ : List Nat → Bool) : WidB (fun s => Φ (T.filter fun i => boxP (B i) s)) (bW T.length) := by
  have h := widB_box (fs := boxFs B) (by simp [boxFs, preFd, ptFd, ivFd]) (fun f hf => by
    simp only [boxFs, List.mem_cons, List.not_mem_nil, or_false] at hf
    rcases hf with rfl | rfl | rfl | rfl | rfl
    · exact preFd_ok ..
    · exact preFd_ok ..
    · exact ptFd_ok ..
    · exact ivFd_ok ..
    · exact ivFd_ok ..) T Φ
  rw [show (fun s => Φ (aliveL (boxFs B) T s)) = fun s => Φ (T.filter fun i => boxP (B i) s) from funext fun s => by rw [box_alive]] at h
  exact h
theorem bW_mono : Mono bW := fun i j h => by
  unfold bW
  have h1 := preL_mono (w := idN) i j h
  have h2 := preL_mono (w := preL idN) i j h
  have h3 := preL_mono (w := preL (ptL idN)) i j h
  have h4 := preL_mono (w := preL (ptL (ivL idN))) i j h
  omega
/-! The bits' functions, by the fields' numbers. -/
theorem tailF_head (a : Nat) (s : Nat → Bool) (m : Nat) : ∀ d, tailF a s m (d + 1) = (if s (2 * (a + m)) then 1 else 0) * 2 ^ d + tailF a s (m + 1) d
  | 0 => by simp [tailF]
  | d + 1 => by
    have ih := tailF_head a s m d
    show 2 * tailF a s m (d + 1) + (if s (2 * (a + m + (d + 1))) then 1 else 0) = _ + (2 * tailF a s (m + 1) d + (if s (2 * (a + (m + 1) + d)) then 1 else 0))
    rw [ih, show a + m + (d + 1) = a + (m + 1) + d by omega, Nat.pow_succ, ← Nat.mul_assoc]
    omega
theorem mod_bit (v m : Nat) : v % 2 ^ (m + 1) = (if v.testBit m then 1 else 0) * 2 ^ m + v % 2 ^ m := by
  rw [Nat.mod_pow_succ, Nat.testBit_eq_decide_div_mod_eq]
  rcases Nat.mod_two_eq_zero_or_one (v / 2 ^ m) with h | h <;> simp [h] <;> omega
theorem bits_tail (a n v : Nat) (s : Nat → Bool) : ∀ m, m ≤ n → bitsF a 0 n v m s = (tailF a s (n - m) m == v % 2 ^ m)
  | 0, _ => by simp [bitsF, tailF, Nat.mod_one]
  | m + 1, hm => by
    have ih := bits_tail a n v s m (by omega)
    show ((s (2 * (a + (n - 1 - m)) + 0) == v.testBit m) && bitsF a 0 n v m s) = _
    rw [ih, show n - m = (n - (m + 1)) + 1 by omega, tailF_head, show n - 1 - m = n - (m + 1) by omega, mod_bit, Nat.add_zero]
    have h1 := tailF_lt a s (n - (m + 1) + 1) m
    have h2 := Nat.mod_lt v (Nat.two_pow_pos m)
    generalize tailF a s (n - (m + 1) + 1) m = x at *
    generalize v % 2 ^ m = y at *
    generalize 2 ^ m = z at *
    cases hs : s (2 * (a + (n - (m + 1)))) <;> cases hv : v.testBit m <;> rw [Bool.eq_iff_iff] <;> simp
    all_goals omega
theorem bits_val (a n v : Nat) (s : Nat → Bool) (hn : n ≤ 32) (hv : v < 2 ^ n) : bitsF a 0 n v n s = (valF a s 32 / 2 ^ (32 - n) == v) := by
  rw [bits_tail a n v s n (Nat.le_refl _), Nat.sub_self, Nat.mod_eq_of_lt hv]
  have h1 := valF_split a s n (32 - n)
  rw [show n + (32 - n) = 32 by omega] at h1
  have h2 := valF_split a s 0 n
  rw [Nat.zero_add] at h2
  have h3 : valF a s n = tailF a s 0 n := by rw [h2]; show 0 * 2 ^ n + _ = _; omega
  rw [h1, Nat.mul_comm, Nat.mul_add_div (Nat.two_pow_pos _), Nat.div_eq_of_lt (tailF_lt ..), Nat.add_zero, h3]
theorem reach_tail (a n v : Nat) (up : Bool) (s : Nat → Bool) : ∀ m, m ≤ n → reachF a n v up m s = if up then decide (v % 2 ^ m ≤ tailF a s (n - m) m) else decide (tailF a s (n - m) m ≤ v % 2 ^ m)
  | 0, _ => by simp [reachF, tailF, Nat.mod_one]
  | m + 1, hm => by
    have ih := reach_tail a n v up s m (by omega)
    show (if s (2 * (a + (n - 1 - m))) then (if v.testBit m then reachF a n v up m s else up) else (if v.testBit m then !up else reachF a n v up m s)) = _
    rw [ih, show n - m = (n - (m + 1)) + 1 by omega, tailF_head, show n - 1 - m = n - (m + 1) by omega, mod_bit]
    have h1 := tailF_lt a s (n - (m + 1) + 1) m
    have h2 := Nat.mod_lt v (Nat.two_pow_pos m)
    generalize tailF a s (n - (m + 1) + 1) m = x at *
    generalize v % 2 ^ m = y at *
    generalize 2 ^ m = z at *
    cases hs : s (2 * (a + (n - (m + 1)))) <;> cases hv : v.testBit m <;> cases up <;> simp
    all_goals omega
theorem span_val (a n lo hi : Nat) (s : Nat → Bool) (hl : lo < 2 ^ n) (hh : hi < 2 ^ n) : spanF a n lo hi s = (decide (lo ≤ valF a s n) && decide (valF a s n ≤ hi)) := by
  have h2 := valF_split a s 0 n
  rw [Nat.zero_add] at h2
  have h3 : valF a s n = tailF a s 0 n := by rw [h2]; show 0 * 2 ^ n + _ = _; omega
  unfold spanF
  rw [reach_tail a n lo true s n (Nat.le_refl _), reach_tail a n hi false s n (Nat.le_refl _), Nat.sub_self, Nat.mod_eq_of_lt hl, Nat.mod_eq_of_lt hh, h3]
  rfl
/-- The first j of a rule's asks, as a box. -/
def rbx (r : RuleV) (j : Nat) : Bx where
  l1 := if 1 ≤ j then r.sn.toNat else 0
  p1 := if 1 ≤ j then r.sa.toNat / 2 ^ (32 - r.sn.toNat) else 0
  l2 := if 2 ≤ j then r.dn.toNat else 0
  p2 := if 2 ≤ j then r.da.toNat / 2 ^ (32 - r.dn.toNat) else 0
  any := decide (¬ 5 ≤ j)
  v := r.proto.toNat
  lo := if 3 ≤ j then r.sl.toNat else 0
  hi := if 3 ≤ j then r.sh.toNat else 65535
  lo2 := if 4 ≤ j then r.dl.toNat else 0
  hi2 := if 4 ≤ j then r.dh.toNat else 65535
theorem pre_top (a len : Nat) (h : len ≤ 32) (ha : a < 4294967296) : a / 2 ^ (32 - len) < 2 ^ len := by
  rw [Nat.div_lt_iff_lt_mul (Nat.two_pow_pos _), ← Nat.pow_add, show len + (32 - len) = 32 by omega]
  exact ha
theorem rbx_eq {r : RuleV} (ok : RuleOk r) {j : Nat} (hj : j ≤ asksN r) (s : Nat → Bool) : boxP (rbx r j) s = ruleK r j s := by
  have h5 : j ≤ 5 := by unfold asksN at hj; split at hj <;> omega
  have b1 := r.hsa
  have b2 := r.hda
  have b3 := r.hsl
  have b4 := r.hdl
  have o1 := ok.s.2
  have o2 := ok.d.2
  have o3 := ok.sp
  have o4 := ok.dp
  have o5 := ok.p
  have v1 := valF_lt 0 s 32
  have v2 := valF_lt 32 s 32
  have v4 := valF_lt 72 s 16
  have v5 := valF_lt 88 s 16
  have a0 : askF r 0 s = (valF 0 s 32 / 2 ^ (32 - r.sn.toNat) == r.sa.toNat / 2 ^ (32 - r.sn.toNat)) := bits_val _ _ _ _ (by omega) (pre_top _ _ (by omega) (by omega))
  have a1 : askF r 1 s = (valF 32 s 32 / 2 ^ (32 - r.dn.toNat) == r.da.toNat / 2 ^ (32 - r.dn.toNat)) := bits_val _ _ _ _ (by omega) (pre_top _ _ (by omega) (by omega))
  have a2 : askF r 2 s = (decide (r.sl.toNat ≤ valF 72 s 16) && decide (valF 72 s 16 ≤ r.sh.toNat)) := span_val _ _ _ _ _ (by show _ < 65536; omega) (by show _ < 65536; omega)
  have a3 : askF r 3 s = (decide (r.dl.toNat ≤ valF 88 s 16) && decide (valF 88 s 16 ≤ r.dh.toNat)) := span_val _ _ _ _ _ (by show _ < 65536; omega) (by show _ < 65536; omega)
  have a4 : askF r 4 s = (valF 64 s 8 == r.proto.toNat) := by
    refine (span_val 64 8 _ _ s (by show _ < 256; omega) (by show _ < 256; omega)).trans ?_
    rw [Bool.eq_iff_iff]
    simp only [Bool.and_eq_true, decide_eq_true_eq, beq_iff_eq]
    omega
  have z1 : (valF 0 s 32 / 2 ^ (32 - 0) == 0) = true := by rw [Nat.div_eq_of_lt (by simpa using v1)]; rfl
  have z2 : (valF 32 s 32 / 2 ^ (32 - 0) == 0) = true := by rw [Nat.div_eq_of_lt (by simpa using v2)]; rfl
  have z4 : decide (valF 72 s 16 ≤ 65535) = true := by simp; omega
  have z5 : decide (valF 88 s 16 ≤ 65535) = true := by simp; omega
  have z6 : ∀ n : Nat, decide (0 ≤ n) = true := fun n => by simp
  obtain rfl | rfl | rfl | rfl | rfl | rfl : j = 0 ∨ j = 1 ∨ j = 2 ∨ j = 3 ∨ j = 4 ∨ j = 5 := by omega
  · show (((valF 0 s 32 / 2 ^ (32 - 0) == 0) && (valF 32 s 32 / 2 ^ (32 - 0) == 0) && true && (decide (0 ≤ valF 72 s 16) && decide (valF 72 s 16 ≤ 65535)) && (decide (0 ≤ valF 88 s 16) && decide (valF 88 s 16 ≤ 65535))) : Bool) = true
    rw [z1, z2, z4, z5, z6, z6]; rfl
  · show (((valF 0 s 32 / 2 ^ (32 - r.sn.toNat) == r.sa.toNat / 2 ^ (32 - r.sn.toNat)) && (valF 32 s 32 / 2 ^ (32 - 0) == 0) && true && (decide (0 ≤ valF 72 s 16) && decide (valF 72 s 16 ≤ 65535)) && (decide (0 ≤ valF 88 s 16) && decide (valF 88 s 16 ≤ 65535))) : Bool) = (true && askF r 0 s)
    rw [z2, z4, z5, z6, z6, a0]; simp
  · show (((valF 0 s 32 / 2 ^ (32 - r.sn.toNat) == r.sa.toNat / 2 ^ (32 - r.sn.toNat)) && (valF 32 s 32 / 2 ^ (32 - r.dn.toNat) == r.da.toNat / 2 ^ (32 - r.dn.toNat)) && true && (decide (0 ≤ valF 72 s 16) && decide (valF 72 s 16 ≤ 65535)) && (decide (0 ≤ valF 88 s 16) && decide (valF 88 s 16 ≤ 65535))) : Bool) = (true && askF r 0 s && askF r 1 s)
    rw [z4, z5, z6, z6, a0, a1]; simp
  · show (((valF 0 s 32 / 2 ^ (32 - r.sn.toNat) == r.sa.toNat / 2 ^ (32 - r.sn.toNat)) && (valF 32 s 32 / 2 ^ (32 - r.dn.toNat) == r.da.toNat / 2 ^ (32 - r.dn.toNat)) && true && (decide (r.sl.toNat ≤ valF 72 s 16) && decide (valF 72 s 16 ≤ r.sh.toNat)) && (decide (0 ≤ valF 88 s 16) && decide (valF 88 s 16 ≤ 65535))) : Bool) = (true && askF r 0 s && askF r 1 s && askF r 2 s)
    rw [z5, z6, a0, a1, a2]; simp
  · show (((valF 0 s 32 / 2 ^ (32 - r.sn.toNat) == r.sa.toNat / 2 ^ (32 - r.sn.toNat)) && (valF 32 s 32 / 2 ^ (32 - r.dn.toNat) == r.da.toNat / 2 ^ (32 - r.dn.toNat)) && true && (decide (r.sl.toNat ≤ valF 72 s 16) && decide (valF 72 s 16 ≤ r.sh.toNat)) && (decide (r.dl.toNat ≤ valF 88 s 16) && decide (valF 88 s 16 ≤ r.dh.toNat))) : Bool) = (true && askF r 0 s && askF r 1 s && askF r 2 s && askF r 3 s)
    rw [a0, a1, a2, a3]; simp
  · show (((valF 0 s 32 / 2 ^ (32 - r.sn.toNat) == r.sa.toNat / 2 ^ (32 - r.sn.toNat)) && (valF 32 s 32 / 2 ^ (32 - r.dn.toNat) == r.da.toNat / 2 ^ (32 - r.dn.toNat)) && (false || valF 64 s 8 == r.proto.toNat) && (decide (r.sl.toNat ≤ valF 72 s 16) && decide (valF 72 s 16 ≤ r.sh.toNat)) && (decide (r.dl.toNat ≤ valF 88 s 16) && decide (valF 88 s 16 ≤ r.dh.toNat))) : Bool) = (true && askF r 0 s && askF r 1 s && askF r 2 s && askF r 3 s && askF r 4 s)
    rw [a0, a1, a2, a3, a4]
    generalize (valF 0 s 32 / 2 ^ (32 - r.sn.toNat) == r.sa.toNat / 2 ^ (32 - r.sn.toNat)) = a
    generalize (valF 32 s 32 / 2 ^ (32 - r.dn.toNat) == r.da.toNat / 2 ^ (32 - r.dn.toNat)) = b
    generalize (valF 64 s 8 == r.proto.toNat) = c
    generalize (decide (r.sl.toNat ≤ valF 72 s 16) && decide (valF 72 s 16 ≤ r.sh.toNat)) = d
    generalize (decide (r.dl.toNat ≤ valF 88 s 16) && decide (valF 88 s 16 ≤ r.dh.toNat)) = e
    cases a <;> cases b <;> cases c <;> cases d <;> cases e <;> rfl
/-- A rule's own function, by the first j asks. -/
theorem ruleK_widB {r : RuleV} (ok : RuleOk r) {j : Nat} (hj : j ≤ asksN r) : WidB (ruleK r j) (bW 1) := by
  have h := box_wid (fun _ => rbx r j) [0] fun l => !l.isEmpty
  rw [show (fun s => !(([0] : List Nat).filter fun _ => boxP (rbx r j) s).isEmpty) = ruleK r j from funext fun s => by
    rw [← rbx_eq ok hj s]
    cases hb : boxP (rbx r j) s <;> simp] at h
  exact h
/-- Which of the rules hold a header. -/
def hits (L : List RuleV) (T : List Nat) (s : Nat → Bool) : List Nat := T.filter fun i => ruleAt L i s
theorem hits_widB {L : List RuleV} (ok : ∀ (k : Nat) (r : RuleV), L[k]? = some r → RuleOk r) (T : List Nat) (hT : ∀ i ∈ T, i < L.length) (Φ : List Nat → Bool) : WidB (fun s => Φ (hits L T s)) (bW T.length) := by
  have h := box_wid (fun i => match L[i]? with | some r => rbx r (asksN r) | none => ⟨0, 0, 0, 0, true, 0, 0, 0, 0, 0⟩) T Φ
  refine (congrArg (fun F => WidB F (bW T.length)) (funext fun s => ?_)).mp h
  congr 1
  refine List.filter_congr fun i hi => ?_
  obtain ⟨r, hr⟩ : ∃ r, L[i]? = some r := ⟨_, List.getElem?_eq_getElem (hT i hi)⟩
  rw [ruleAt_eq hr, hr]
  exact rbx_eq (ok i r hr) (Nat.le_refl _) s
theorem hits_range (L : List RuleV) (k : Nat) (s : Nat → Bool) : leftF L k s = (hits L (List.range k) s).isEmpty := by
  rw [Bool.eq_iff_iff]
  unfold leftF hits
  rw [Bool.not_eq_true', List.any_eq_false, List.isEmpty_iff, List.filter_eq_nil_iff]
  constructor
  · intro h i hi
    unfold ruleAt
    cases hr : L[i]? with
    | none => simp
    | some r =>
      have := h r (List.mem_iff_getElem?.2 ⟨i, by rw [List.getElem?_take_of_lt (List.mem_range.1 hi)]; exact hr⟩)
      simpa using this
  · intro h r hr
    obtain ⟨i, hi⟩ := List.mem_iff_getElem?.1 hr
    have hik : i < k := by
      have := (List.getElem?_eq_some_iff.1 hi).1
      rw [List.length_take] at this
      omega
    rw [List.getElem?_take_of_lt hik] at hi
    have := h i (List.mem_range.2 hik)
    rw [ruleAt_eq hi] at this
    exact this
end Go.Proofs.YtbahehmfhjkgeaaGreat

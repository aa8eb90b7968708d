/-
  Joined texts: Rd0, Rf1, Re1, Rh1, Rh2, Rh3, Filt.
-/
import Derived.Test.YtbahehmfhjkgeaaGreatMRelRefuses4
import Derived.Deep.DeepCutAuto
import Derived.Test.YtbahehmfhjkgeaaGreatMRelRefuses3
import Derived.Test.YtbahehmfhjkgeaaGreatMRelRefuses2
/-
  What a space asks its arena of two sets.
-/
namespace Go.Proofs.YtbahehmfhjkgeaaGreat
open Go Go.RowKit Go.ChangeMaps Go.MapKept Go.Maps Go.Lib Go.Sort

/-- A function of headers: it hangs on no variable of the bits behind. -/
def SetF (F : Fun) : Prop := ∀ v, v % 2 = 1 → Free F v
theorem Den.setOk {σ : Sg} {g : Nat} {F : Fun} (h : Den σ g F) (s : SetF F) : SetOk σ (g : Int) := ⟨g, h.1, rfl, by
  unfold IsSet
  rw [show (fun s => ev σ.N s g) = F from funext h.2]
  exact s⟩
theorem Den.nodeOk {σ : Sg} {g : Nat} {F : Fun} (h : Den σ g F) : NodeOk σ (g : Int) := ⟨g, h.1, rfl⟩
theorem Den.known {σ : Sg} {g : Nat} {F : Fun} (h : Den σ g F) (K : List (Value × Value)) : Den (σ.know K) g F := h
theorem Den.lt64 {Mo : Nat} {σ : Sg} {g : Nat} {F : Fun} (h : Den σ g F) (o : SgOk Mo σ) : g < 2147483647 ∧ (g : Int) ≤ 2147483646 := by
  have := (o.g g h.1).1
  have := o.le
  omega
theorem To.know (σ : Sg) (K : List (Value × Value)) : To 0 0 σ (σ.know K) := ⟨Ext.refl _, Nat.le_refl _, Nat.le_refl _, fun _ h => h, fun _ h => h⟩
theorem ChRes.form {w w' : World} {B S km : Nat} {A : Blks} {Mo : Nat} {σ : Sg} {sets nodes : List Int} {e : Ending} (h : ChRes w B S km A Mo σ sets nodes e w') : ∃ c : Int, e = .returned (.int .i64 c) := by
  obtain ⟨_, _, _, ⟨rfl, _⟩ | ⟨rfl, _⟩⟩ := h
  · exact ⟨_, rfl⟩
  · exact ⟨_, rfl⟩
theorem ChRes.yes {w w' : World} {B S km : Nat} {A : Blks} {Mo : Nat} {σ : Sg} {sets nodes : List Int} {e : Ending} (h : ChRes w B S km A Mo σ sets nodes e w') (ok : AllNum σ sets nodes) : e = .returned (.int .i64 0) ∧ ∃ K, SpOk w' B S km A Mo (σ.know K) ∧ KeptS A km w w' := by
  obtain ⟨K, h1, h2, ⟨h3, _⟩ | ⟨_, h3⟩⟩ := h
  · exact ⟨h3, K, h1, h2⟩
  · exact absurd ok h3
theorem ChRes.no {w w' : World} {B S km : Nat} {A : Blks} {Mo : Nat} {σ : Sg} {sets nodes : List Int} {e : Ending} (h : ChRes w B S km A Mo σ sets nodes e w') (ok : ¬ AllNum σ sets nodes) : e = .returned (.int .i64 1) ∧ ∃ K, SpOk w' B S km A Mo (σ.know K) ∧ KeptS A km w w' := by
  obtain ⟨K, h1, h2, ⟨_, h3⟩ | ⟨h3, _⟩⟩ := h
  · exact absurd h3 ok
  · exact ⟨h3, K, h1, h2⟩
/-- Numbers laid in a fresh block. -/
theorem RowI.fresh {w : World} {B S km : Nat} {A : Blks} {Mo : Nat} {σ : Sg} (h : SpOk w B S km A Mo σ) (l : List Int) (hl : ∀ x ∈ l, -9223372036854775808 ≤ x ∧ x ≤ 9223372036854775807) (c : Nat) :
    RowI A km (w.alloc (.cells (l.map (Value.int .i64)).toArray 3)) (.slice (some ⟨w.heap.size, 0, none⟩) l.length c) l := by
  refine ⟨⟨_, c, rfl, fun i x hx => ⟨w.heap.size, rfl, ?_, h.sp.ar.foreign_new (below1 w _) (Nat.le_refl _) (by simp), ?_⟩⟩, hl⟩
  · have hb := blk1 w (.cells (l.map (Value.int .i64)).toArray 3)
    rw [cell_of_row _ _ i _ _ (0, 0) hb]
    simp [hx]
  · have := h.sp.fk.1
    omega
/-- checked, of numbers in a fresh block. -/
theorem SpOk.check {w : World} {B S km : Nat} {A : Blks} {Mo : Nat} {σ : Sg} (h : SpOk w B S km A Mo σ) (l : List Int) (hl : ∀ x ∈ l, -9223372036854775808 ≤ x ∧ x ≤ 9223372036854775807) (hn : l.length ≤ 1000) :
    Calls Tryz.prog 52 #[.pointer (some ⟨S, 0, none⟩), .slice (some ⟨w.heap.size, 0, none⟩) l.length l.length, .slice none 0 0] (w.alloc (.cells (l.map (Value.int .i64)).toArray 3)) (fun e w' => ChRes w B S km A Mo σ l [] e w') := by
  have hb := below1 w (.cells (l.map (Value.int .i64)).toArray 3)
  refine (checked_any (h.below hb) _ _ l [] (RowI.fresh h l hl _) (RowI.nil _ _ _) hn (by simp)).mono ?_
  rintro e w' ⟨K, h1, h2, h3⟩
  exact ⟨K, h1, (h.kept hb).trans h2, h3⟩
section
variable {w : World} {B S km : Nat} {A : Blks} {Mo : Nat} {σ : Sg}
set_option maxRecDepth 100000
set_option maxHeartbeats 1000000
theorem two_yes (h : SpOk w B S km A Mo σ) {fid : FuncId} {ts cs : Array Value} {Post : World → Ending → World → Prop} (hf : ∀ (r : Ending) (W W' : World), Post W r W' → ∃ q c : Int, r = .returned (.tuple #[.int .i64 q, .int .i64 c]))
    (en : ∀ (args : Array Value) (w : World), (callFunc fid args).run Tryz.prog w = .ok (.enter fid args) w) (x y : Int) (hx : -9223372036854775808 ≤ x ∧ x ≤ 9223372036854775807) (hy : -9223372036854775808 ≤ y ∧ y ≤ 9223372036854775807) (ok : AllNum σ [x, y] [])
    (hcall : ∀ (K : List (Value × Value)) (W : World), SpOk W B S km A Mo (σ.know K) → KeptS A km w W → Calls Tryz.prog fid (ts ++ (#[.int .i64 x, .int .i64 y] ++ cs)) W (Post W)) :
    Calls Tryz.prog 54 #[.pointer (some ⟨S, 0, none⟩), .int .i64 x, .int .i64 y, .func (.func fid) ts cs] w fun e w' => ∃ (K : List (Value × Value)) (W : World), SpOk W B S km A Mo (σ.know K) ∧ KeptS A km w W ∧ Post W e w' := by
  have hck := h.check [x, y] (by simp; exact ⟨hx, hy⟩) (by simp)
  have hck : Calls Tryz.prog 52 #[.pointer (some ⟨S, 0, none⟩), .slice (some ⟨w.heap.size, 0, none⟩) 2 2, .slice none 0 0] (w.alloc (.cells #[.int .i64 x, .int .i64 y] 3)) (fun e w' => ChRes w B S km A Mo σ [x, y] [] e w') := hck
  have HCK := Lib.hid hck
  have HCALL := Lib.hid hcall
  have HF := Lib.hid hf
  clear hck hcall hf h hx hy
  go_enter Tryz.func54, Tryz.ntmps54
  go_wp2_with ((with_reducible refine HCK.out.mono ?_); rintro e W2 hr; obtain ⟨he, K, hs2, hk2⟩ := hr.yes ok; subst he; have HS2 := Lib.hid hs2; have HK2 := Lib.hid hk2; clear hr hs2 hk2)
  refine (HCALL.out K W2 HS2.out HK2.out).mono ?_
  rintro e W3 hp
  have HP := Lib.hid hp
  obtain ⟨q, c, rfl⟩ := HF.out _ _ _ hp
  clear hp
  go_wp2
  go_ret2
  exact ⟨K, W2, HS2.out, HK2.out, HP.out⟩
theorem two_no (h : SpOk w B S km A Mo σ) {fv : Value} (x y : Int) (hx : -9223372036854775808 ≤ x ∧ x ≤ 9223372036854775807) (hy : -9223372036854775808 ≤ y ∧ y ≤ 9223372036854775807) (ok : ¬ AllNum σ [x, y] []) :
    Calls Tryz.prog 54 #[.pointer (some ⟨S, 0, none⟩), .int .i64 x, .int .i64 y, fv] w fun e w' => e = .returned (.tuple #[.int .i64 0, .int .i64 1]) ∧ ∃ K, SpOk w' B S km A Mo (σ.know K) ∧ KeptS A km w w' := by
  have hck := h.check [x, y] (by simp; exact ⟨hx, hy⟩) (by simp)
  have hck : Calls Tryz.prog 52 #[.pointer (some ⟨S, 0, none⟩), .slice (some ⟨w.heap.size, 0, none⟩) 2 2, .slice none 0 0] (w.alloc (.cells #[.int .i64 x, .int .i64 y] 3)) (fun e w' => ChRes w B S km A Mo σ [x, y] [] e w') := hck
  have HCK := Lib.hid hck
  clear hck h hx hy
  go_enter Tryz.func54, Tryz.ntmps54
  go_wp2_with ((with_reducible refine HCK.out.mono ?_); rintro e W2 hr; obtain ⟨he, hs2⟩ := hr.no ok; subst he; have HS2 := Lib.hid hs2; clear hr hs2)
  go_ret2
  exact ⟨rfl, HS2.out⟩
/-- What a call on a space comes to that refuses its numbers. -/
def SpNo (w : World) (B S km : Nat) (A : Blks) (Mo : Nat) (σ : Sg) (e : Ending) (w' : World) : Prop := e = .returned (.tuple #[.int .i64 0, .int .i64 1]) ∧ ∃ K, SpOk w' B S km A Mo (σ.know K) ∧ KeptS A km w w'
theorem SpRes.known {w W w' : World} {F : Fun} {k m : Nat} {e : Ending} {K : List (Value × Value)} (h : SpRes W B S km A Mo (σ.know K) F k m e w') (hk : KeptS A km w W) : SpRes w B S km A Mo σ F k m e w' := by
  have := h.after (To.know σ K) hk
  simpa using this
theorem allOk2 {f g : Nat} {F G : Fun} (hf : Den σ f F) (hg : Den σ g G) (sf : SetF F) (sg : SetF G) : AllNum σ [(f : Int), (g : Int)] [] := ⟨by simp, by
  intro x hx
  simp at hx
  rcases hx with rfl | rfl
  · exact hf.setOk sf
  · exact hg.setOk sg⟩
theorem relAnd_yes (h : SpOk w B S km A Mo σ) {f g : Nat} {F G : Fun} (hf : Den σ f F) (hg : Den σ g G) (sf : SetF F) (sg : SetF G) {a b : Nat} (hgr : Grow σ.N σ.H (fun s => F s && G s) a b) (hl : σ.N.length + a ≤ 2147483647) :
    Calls Tryz.prog 14 #[.pointer (some ⟨S, 0, none⟩), .int .i64 f, .int .i64 g] w (SpRes w B S km A Mo σ (fun s => F s && G s) a b) := by
  have hfl := hf.lt64 h.ok
  have hgl := hg.lt64 h.ok
  have c0 := h.sp.c0
  have htwo := Lib.hid (two_yes (fid := 55) (ts := #[.pointer (some ⟨A.a, 0, none⟩)]) (cs := #[]) (Post := fun W e w' => ∃ K, SpRes W B S km A Mo (σ.know K) (fun s => F s && G s) a b e w') h (fun r W W' ⟨K, hr⟩ => hr.form) (fun _ _ => by go_simp) f g (by omega) (by omega) (allOk2 hf hg sf sg)
    (fun K W hs _ => (hs.and (hf.known K) (hg.known K) hgr hl).mono fun e w' hr => ⟨K, hr⟩))
  clear h hf hg sf sg hgr hl
  go_enter Tryz.func14, Tryz.ntmps14
  go_wp2_with ((with_reducible refine htwo.out.mono ?_); rintro e W2 ⟨K, W, hs, hk, K2, hr⟩; have HR := Lib.hid (hr.known hk); obtain ⟨q, c, rfl⟩ := hr.form; clear hs hk hr)
  go_ret2
  exact HR.out
end
end Go.Proofs.YtbahehmfhjkgeaaGreat

/-
  What a space makes of sets and relations (written by wip/gen/genrf1.py).
-/
namespace Go.Proofs.YtbahehmfhjkgeaaGreat
open Go Go.RowKit Go.ChangeMaps Go.MapKept Go.Maps Go.Lib Go.Sort

section
variable {w : World} {B S km : Nat} {A : Blks} {Mo : Nat} {σ : Sg}
set_option maxRecDepth 100000
set_option maxHeartbeats 1000000
def I64 (x : Int) : Prop := -9223372036854775808 ≤ x ∧ x ≤ 9223372036854775807
theorem SpOk.check1 (h : SpOk w B S km A Mo σ) (x : Int) (hx : I64 x) :
    Calls Tryz.prog 52 #[.pointer (some ⟨S, 0, none⟩), .slice (some ⟨w.heap.size, 0, none⟩) 1 1, .slice none 0 0] (w.alloc (.cells #[.int .i64 x] 3)) (fun e w' => ChRes w B S km A Mo σ [x] [] e w') := h.check [x] (by simp; exact hx) (by simp)
/-- checked, of relations. -/
theorem SpOk.checkN (h : SpOk w B S km A Mo σ) (l : List Int) (hl : ∀ x ∈ l, I64 x) (hn : l.length ≤ 1000) :
    Calls Tryz.prog 52 #[.pointer (some ⟨S, 0, none⟩), .slice none 0 0, .slice (some ⟨w.heap.size, 0, none⟩) l.length l.length] (w.alloc (.cells (l.map (Value.int .i64)).toArray 3)) (fun e w' => ChRes w B S km A Mo σ [] l e w') := by
  have hb := below1 w (.cells (l.map (Value.int .i64)).toArray 3)
  refine (checked_any (h.below hb) _ _ [] l (RowI.nil _ _ _) (RowI.fresh h l hl _) (by simp) hn).mono ?_
  rintro e w' ⟨K, h1, h2, h3⟩
  exact ⟨K, h1, (h.kept hb).trans h2, h3⟩
theorem SpOk.checkN1 (h : SpOk w B S km A Mo σ) (x : Int) (hx : I64 x) :
    Calls Tryz.prog 52 #[.pointer (some ⟨S, 0, none⟩), .slice none 0 0, .slice (some ⟨w.heap.size, 0, none⟩) 1 1] (w.alloc (.cells #[.int .i64 x] 3)) (fun e w' => ChRes w B S km A Mo σ [] [x] e w') := h.checkN [x] (by simp; exact hx) (by simp)
theorem SpOk.checkN2 (h : SpOk w B S km A Mo σ) (x y : Int) (hx : I64 x) (hy : I64 y) :
    Calls Tryz.prog 52 #[.pointer (some ⟨S, 0, none⟩), .slice none 0 0, .slice (some ⟨w.heap.size, 0, none⟩) 2 2] (w.alloc (.cells #[.int .i64 x, .int .i64 y] 3)) (fun e w' => ChRes w B S km A Mo σ [] [x, y] e w') := h.checkN [x, y] (by simp; exact ⟨hx, hy⟩) (by simp)
/-- checked, of a set and a relation. -/
theorem SpOk.checkB (h : SpOk w B S km A Mo σ) (x y : Int) (hx : I64 x) (hy : I64 y) :
    Calls Tryz.prog 52 #[.pointer (some ⟨S, 0, none⟩), .slice (some ⟨w.heap.size, 0, none⟩) 1 1, .slice (some ⟨w.heap.size + 1, 0, none⟩) 1 1] ((w.alloc (.cells #[.int .i64 x] 3)).alloc (.cells #[.int .i64 y] 3)) (fun e w' => ChRes w B S km A Mo σ [x] [y] e w') := by
  have hb := below1 w (.cells #[.int .i64 x] 3)
  have h1 := h.below hb
  have hb2 := below1 (w.alloc (.cells #[.int .i64 x] 3)) (.cells #[.int .i64 y] 3)
  have hs : (w.alloc (.cells #[.int .i64 x] 3)).heap.size = w.heap.size + 1 := by simp
  have r1 : RowI A km (w.alloc (.cells #[.int .i64 x] 3)) (.slice (some ⟨w.heap.size, 0, none⟩) 1 1) [x] := RowI.fresh h [x] (by simp; exact hx) 1
  have r2 : RowI A km ((w.alloc (.cells #[.int .i64 x] 3)).alloc (.cells #[.int .i64 y] 3)) (.slice (some ⟨(w.alloc (.cells #[.int .i64 x] 3)).heap.size, 0, none⟩) 1 1) [y] := RowI.fresh h1 [y] (by simp; exact hy) 1
  rw [hs] at r2
  refine (checked_any (h1.below hb2) _ _ [x] [y] (r1.kept (h1.kept hb2)) r2 (by simp) (by simp)).mono ?_
  rintro e w' ⟨K, h3, h4, h5⟩
  exact ⟨K, h3, (h.kept hb).trans ((h1.kept hb2).trans h4), h5⟩
theorem allOk1 {f : Nat} {F : Fun} (hf : Den σ f F) (sf : SetF F) : AllNum σ [(f : Int)] [] := ⟨by simp, by
  intro x hx
  simp at hx
  subst hx
  exact hf.setOk sf⟩
theorem allOkB {r a : Nat} {R F : Fun} (hr : Den σ r R) (ha : Den σ a F) (sa : SetF F) : AllNum σ [(a : Int)] [(r : Int)] := ⟨by
  intro x hx
  simp at hx
  subst hx
  exact hr.nodeOk, by
  intro x hx
  simp at hx
  subst hx
  exact ha.setOk sa⟩
theorem allOkN1 {r : Nat} {R : Fun} (hr : Den σ r R) : AllNum σ [] [(r : Int)] := ⟨by
  intro x hx
  simp at hx
  subst hx
  exact hr.nodeOk, by simp⟩
theorem allOkN2 {r q : Nat} {R Q : Fun} (hr : Den σ r R) (hq : Den σ q Q) : AllNum σ [] [(r : Int), (q : Int)] := ⟨by
  intro x hx
  simp at hx
  rcases hx with rfl | rfl
  · exact hr.nodeOk
  · exact hq.nodeOk, by simp⟩
theorem relAnd_no (h : SpOk w B S km A Mo σ) (x y : Int) (hx : I64 x) (hy : I64 y) (ok : ¬ AllNum σ [x, y] []) :
    Calls Tryz.prog 14 #[.pointer (some ⟨S, 0, none⟩), .int .i64 x, .int .i64 y] w (SpNo w B S km A Mo σ) := by
  have c0 := h.sp.c0
  have HCK := Lib.hid (fun fv => two_no (fv := fv) h x y hx hy ok)
  clear h
  go_enter Tryz.func14, Tryz.ntmps14
  go_wp2_with ((with_reducible refine (HCK.out _).mono ?_); rintro e W2 ⟨rfl, hs2⟩; have HS2 := Lib.hid hs2; clear hs2)
  go_ret2
  exact ⟨rfl, HS2.out⟩
theorem relOr_no (h : SpOk w B S km A Mo σ) (x y : Int) (hx : I64 x) (hy : I64 y) (ok : ¬ AllNum σ [x, y] []) :
    Calls Tryz.prog 31 #[.pointer (some ⟨S, 0, none⟩), .int .i64 x, .int .i64 y] w (SpNo w B S km A Mo σ) := by
  have c0 := h.sp.c0
  have HCK := Lib.hid (fun fv => two_no (fv := fv) h x y hx hy ok)
  clear h
  go_enter Tryz.func31, Tryz.ntmps31
  go_wp2_with ((with_reducible refine (HCK.out _).mono ?_); rintro e W2 ⟨rfl, hs2⟩; have HS2 := Lib.hid hs2; clear hs2)
  go_ret2
  exact ⟨rfl, HS2.out⟩
theorem relLess_no (h : SpOk w B S km A Mo σ) (x y : Int) (hx : I64 x) (hy : I64 y) (ok : ¬ AllNum σ [x, y] []) :
    Calls Tryz.prog 32 #[.pointer (some ⟨S, 0, none⟩), .int .i64 x, .int .i64 y] w (SpNo w B S km A Mo σ) := by
  have hb := below1 w (.cells #[.pointer (some ⟨S, 0, none⟩)] 26)
  have kb := cell0 (blk1 w (.cells #[.pointer (some ⟨S, 0, none⟩)] 26))
  have HK := Lib.hid (h.kept hb)
  have HCK := Lib.hid (fun fv => two_no (fv := fv) (h.below hb) x y hx hy ok)
  clear h hb
  go_enter Tryz.func32, Tryz.ntmps32
  go_wp2_with ((with_reducible refine (HCK.out _).mono ?_); rintro e W2 ⟨rfl, K, hs2, hk2⟩; have HS2 := Lib.hid hs2; have HK2 := Lib.hid hk2; clear hs2 hk2)
  go_ret2
  exact ⟨rfl, K, HS2.out, HK.out.trans HK2.out⟩
theorem relOr_yes (h : SpOk w B S km A Mo σ) {f g : Nat} {F G : Fun} (hf : Den σ f F) (hg : Den σ g G) (sf : SetF F) (sg : SetF G) {a b : Nat} (hgr : Grow σ.N σ.H (fun s => F s || G s) a b) (hl : σ.N.length + a ≤ 2147483647) :
    Calls Tryz.prog 31 #[.pointer (some ⟨S, 0, none⟩), .int .i64 f, .int .i64 g] w (SpRes w B S km A Mo σ (fun s => F s || G s) a b) := by
  have hfl := hf.lt64 h.ok
  have hgl := hg.lt64 h.ok
  have c0 := h.sp.c0
  have htwo := Lib.hid (two_yes (fid := 90) (ts := #[.pointer (some ⟨A.a, 0, none⟩)]) (cs := #[]) (Post := fun W e w' => ∃ K, SpRes W B S km A Mo (σ.know K) (fun s => F s || G s) a b e w') h (fun r W W' ⟨K, hr⟩ => hr.form) (fun _ _ => by go_simp) f g (by omega) (by omega) (allOk2 hf hg sf sg)
    (fun K W hs _ => (hs.or (hf.known K) (hg.known K) hgr hl).mono fun e w' hr => ⟨K, hr⟩))
  clear h hf hg sf sg hgr hl
  go_enter Tryz.func31, Tryz.ntmps31
  go_wp2_with ((with_reducible refine htwo.out.mono ?_); rintro e W2 ⟨K, W, hs, hk, K2, hr⟩; have HR := Lib.hid (hr.known hk); obtain ⟨q, c, rfl⟩ := hr.form; clear hs hk hr)
  go_ret2
  exact HR.out
theorem less1 (h : SpOk w B S km A Mo σ) {f g : Nat} {F G : Fun} (hf : Den σ f F) (hg : Den σ g G) {bx : Nat} (hb : w.cell? ⟨bx, 0, none⟩ = some (.pointer (some ⟨S, 0, none⟩))) {a b : Nat} (hgr : Grow σ.N σ.H (fun s => F s && !G s) a b) (hl : σ.N.length + a ≤ 2147483647) :
    Calls Tryz.prog 91 #[.int .i64 f, .int .i64 g, .pointer (some ⟨bx, 0, none⟩)] w (SpRes w B S km A Mo σ (fun s => F s && !G s) a b) := by
  have c0 := h.sp.c0
  have e : (fun s => F s && !G s) = fun s => if G s then false else F s := funext fun s => by cases F s <;> cases G s <;> rfl
  rw [e] at hgr ⊢
  have hite := Lib.hid (show Calls Tryz.prog 92 #[.pointer (some ⟨A.a, 0, none⟩), .int .i64 g, .int .i64 0, .int .i64 f] w (SpRes w B S km A Mo σ (fun s => if G s then false else F s) a b) from h.ite hg (Den.zero h.ok) hf hgr hl)
  clear h hf hg hgr hl e
  go_enter Tryz.func91, Tryz.ntmps91
  go_wp2_with ((with_reducible refine hite.out.mono ?_); rintro e W2 hr; have HR := Lib.hid hr; obtain ⟨q, c, rfl⟩ := hr.form; clear hr)
  go_ret2
  exact HR.out
theorem relLess_yes (h : SpOk w B S km A Mo σ) {f g : Nat} {F G : Fun} (hf : Den σ f F) (hg : Den σ g G) (sf : SetF F) (sg : SetF G) {a b : Nat} (hgr : Grow σ.N σ.H (fun s => F s && !G s) a b) (hl : σ.N.length + a ≤ 2147483647) :
    Calls Tryz.prog 32 #[.pointer (some ⟨S, 0, none⟩), .int .i64 f, .int .i64 g] w (SpRes w B S km A Mo σ (fun s => F s && !G s) a b) := by
  have hfl := hf.lt64 h.ok
  have hgl := hg.lt64 h.ok
  have hb := below1 w (.cells #[.pointer (some ⟨S, 0, none⟩)] 26)
  have kb := blk1 w (.cells #[.pointer (some ⟨S, 0, none⟩)] 26)
  have cb := cell0 kb
  have hkb := h.kept hb
  have hfo := h.sp.ar.foreign_new hb (Nat.le_refl _) (lt_of_block kb)
  have hfk := h.sp.fk.1
  have htwo := Lib.hid (two_yes (fid := 91) (ts := #[]) (cs := #[.pointer (some ⟨w.heap.size, 0, none⟩)]) (Post := fun W e w' => ∃ K, SpRes W B S km A Mo (σ.know K) (fun s => F s && !G s) a b e w') (h.below hb) (fun r W W' ⟨K, hr⟩ => hr.form) (fun _ _ => by go_simp) f g (by omega) (by omega) (allOk2 hf hg sf sg)
    (fun K W hs hk => (less1 hs (hf.known K) (hg.known K) (cell0 ((hk.same _ hfo (by omega)).1.trans kb)) hgr hl).mono fun e w' hr => ⟨K, hr⟩))
  have HK := Lib.hid hkb
  clear h hf hg sf sg hgr hl hb kb hkb hfo hfk
  go_enter Tryz.func32, Tryz.ntmps32
  go_wp2_with ((with_reducible refine htwo.out.mono ?_); rintro e W2 ⟨K, W, hs, hk, K2, hr⟩; have HR := Lib.hid (hr.known (HK.out.trans hk)); obtain ⟨q, c, rfl⟩ := hr.form; clear hs hk hr)
  go_ret2
  exact HR.out
theorem relNot_yes (h : SpOk w B S km A Mo σ) {f : Nat} {F : Fun} (hf : Den σ f F) (sf : SetF F) {a b : Nat} (hgr : Grow σ.N σ.H (fun s => !F s) a b) (hl : σ.N.length + a ≤ 2147483647) :
    Calls Tryz.prog 12 #[.pointer (some ⟨S, 0, none⟩), .int .i64 f] w (SpRes w B S km A Mo σ (fun s => !F s) a b) := by
  have hfl := hf.lt64 h.ok
  have HCK := Lib.hid (h.check1 f (by unfold I64; omega))
  have HOP := Lib.hid (fun (K : List (Value × Value)) (W : World) (hs : SpOk W B S km A Mo (σ.know K)) => hs.not (hf.known K) hgr hl)
  have OK := Lib.hid (allOk1 hf sf)
  clear h hf sf hgr hl
  go_enter Tryz.func12, Tryz.ntmps12
  go_upto_region 2 with ((with_reducible refine HCK.out.mono ?_); rintro e W2 hr; obtain ⟨he, K, hs2, hk2⟩ := hr.yes OK.out; subst he; have HS2 := Lib.hid hs2; have HK2 := Lib.hid hk2; clear hr hs2 hk2)
  have c0 := HS2.out.sp.c0
  have HO := Lib.hid (HOP.out K W2 HS2.out)
  clear HOP
  go_wp2_with ((with_reducible refine HO.out.mono ?_); rintro e W3 hr; have HR := Lib.hid (hr.known HK2.out); obtain ⟨q, c, rfl⟩ := hr.form; clear hr)
  go_ret2
  exact HR.out
theorem relNot_no (h : SpOk w B S km A Mo σ) (x : Int) (hx : I64 x) (ok : ¬ AllNum σ [x] []) :
    Calls Tryz.prog 12 #[.pointer (some ⟨S, 0, none⟩), .int .i64 x] w (SpNo w B S km A Mo σ) := by
  have HCK := Lib.hid (h.check1 x hx)
  clear h
  go_enter Tryz.func12, Tryz.ntmps12
  go_wp2_with ((with_reducible refine HCK.out.mono ?_); rintro e W2 hr; obtain ⟨he, hs2⟩ := hr.no ok; subst he; have HS2 := Lib.hid hs2; clear hr hs2)
  go_ret2
  exact ⟨rfl, HS2.out⟩
theorem relWhere_yes (h : SpOk w B S km A Mo σ) {r q : Nat} {R F : Fun} (hr : Den σ r R) (ha : Den σ q F) (sa : SetF F) {a b : Nat} (hgr : Grow σ.N σ.H (fun s => R s && F s) a b) (hl : σ.N.length + a ≤ 2147483647) :
    Calls Tryz.prog 33 #[.pointer (some ⟨S, 0, none⟩), .int .i64 r, .int .i64 q] w (SpRes w B S km A Mo σ (fun s => R s && F s) a b) := by
  have hfl := hr.lt64 h.ok
  have hgl := ha.lt64 h.ok
  have HCK := Lib.hid (h.checkB q r (by unfold I64; omega) (by unfold I64; omega))
  have HOP := Lib.hid (fun (K : List (Value × Value)) (W : World) (hs : SpOk W B S km A Mo (σ.know K)) => hs.and (hr.known K) (ha.known K) hgr hl)
  have OK := Lib.hid (allOkB hr ha sa)
  clear h hr ha sa hgr hl
  go_enter Tryz.func33, Tryz.ntmps33
  go_upto_region 2 with ((with_reducible refine HCK.out.mono ?_); rintro e W2 hr; obtain ⟨he, K, hs2, hk2⟩ := hr.yes OK.out; subst he; have HS2 := Lib.hid hs2; have HK2 := Lib.hid hk2; clear hr hs2 hk2)
  have c0 := HS2.out.sp.c0
  have HO := Lib.hid (HOP.out K W2 HS2.out)
  clear HOP
  go_wp2_with ((with_reducible refine HO.out.mono ?_); rintro e W3 hr; have HR := Lib.hid (hr.known HK2.out); obtain ⟨q, c, rfl⟩ := hr.form; clear hr)
  go_ret2
  exact HR.out
theorem relWhere_no (h : SpOk w B S km A Mo σ) (x y : Int) (hx : I64 x) (hy : I64 y) (ok : ¬ AllNum σ [y] [x]) :
    Calls Tryz.prog 33 #[.pointer (some ⟨S, 0, none⟩), .int .i64 x, .int .i64 y] w (SpNo w B S km A Mo σ) := by
  have HCK := Lib.hid (h.checkB y x hy hx)
  clear h
  go_enter Tryz.func33, Tryz.ntmps33
  go_wp2_with ((with_reducible refine HCK.out.mono ?_); rintro e W2 hr; obtain ⟨he, hs2⟩ := hr.no ok; subst he; have HS2 := Lib.hid hs2; clear hr hs2)
  go_ret2
  exact ⟨rfl, HS2.out⟩
theorem relEither_yes (h : SpOk w B S km A Mo σ) {r q : Nat} {R F : Fun} (hr : Den σ r R) (ha : Den σ q F) {a b : Nat} (hgr : Grow σ.N σ.H (fun s => R s || F s) a b) (hl : σ.N.length + a ≤ 2147483647) :
    Calls Tryz.prog 34 #[.pointer (some ⟨S, 0, none⟩), .int .i64 r, .int .i64 q] w (SpRes w B S km A Mo σ (fun s => R s || F s) a b) := by
  have hfl := hr.lt64 h.ok
  have hgl := ha.lt64 h.ok
  have HCK := Lib.hid (h.checkN2 r q (by unfold I64; omega) (by unfold I64; omega))
  have HOP := Lib.hid (fun (K : List (Value × Value)) (W : World) (hs : SpOk W B S km A Mo (σ.know K)) => hs.or (hr.known K) (ha.known K) hgr hl)
  have OK := Lib.hid (allOkN2 hr ha)
  clear h hr ha hgr hl
  go_enter Tryz.func34, Tryz.ntmps34
  go_upto_region 2 with ((with_reducible refine HCK.out.mono ?_); rintro e W2 hr; obtain ⟨he, K, hs2, hk2⟩ := hr.yes OK.out; subst he; have HS2 := Lib.hid hs2; have HK2 := Lib.hid hk2; clear hr hs2 hk2)
  have c0 := HS2.out.sp.c0
  have HO := Lib.hid (HOP.out K W2 HS2.out)
  clear HOP
  go_wp2_with ((with_reducible refine HO.out.mono ?_); rintro e W3 hr; have HR := Lib.hid (hr.known HK2.out); obtain ⟨q, c, rfl⟩ := hr.form; clear hr)
  go_ret2
  exact HR.out
theorem relEither_no (h : SpOk w B S km A Mo σ) (x y : Int) (hx : I64 x) (hy : I64 y) (ok : ¬ AllNum σ [] [x, y]) :
    Calls Tryz.prog 34 #[.pointer (some ⟨S, 0, none⟩), .int .i64 x, .int .i64 y] w (SpNo w B S km A Mo σ) := by
  have HCK := Lib.hid (h.checkN2 x y hx hy)
  clear h
  go_enter Tryz.func34, Tryz.ntmps34
  go_wp2_with ((with_reducible refine HCK.out.mono ?_); rintro e W2 hr; obtain ⟨he, hs2⟩ := hr.no ok; subst he; have HS2 := Lib.hid hs2; clear hr hs2)
  go_ret2
  exact ⟨rfl, HS2.out⟩
end
end Go.Proofs.YtbahehmfhjkgeaaGreat

/-
  All variables of the bits, in a list.
-/
namespace Go.Proofs.YtbahehmfhjkgeaaGreat
open Go Go.RowKit Go.ChangeMaps Go.MapKept Go.Maps Go.Lib Go.Sort

/-- The variables of the bits from 0 to n - 1. -/
def varsL (o n : Nat) : List Int := (List.range n).map fun i => ((2 * i + o : Nat) : Int)
theorem varsL_len (o n : Nat) : (varsL o n).length = n := by simp [varsL]
theorem varsL_snoc (o n : Nat) : varsL o (n + 1) = varsL o n ++ [((2 * n + o : Nat) : Int)] := by simp [varsL, List.range_succ]
theorem varsL_get (o n : Nat) {i : Nat} (h : i < n) : (varsL o n)[i]? = some ((2 * i + o : Nat) : Int) := by simp [varsL, h]
set_option maxRecDepth 100000 in
set_option maxHeartbeats 2000000 in
theorem all_any (w : World) {vf : FuncId} {o : Nat} (V : VarF vf o) :
    Calls Tryz.prog 83 #[.func (.func vf) #[] #[]] w fun e w' => ∃ v, e = .returned v ∧ w'.ownsRow w.heap.size 3 1 v 104 (icells (varsL o 104)) ∧ Below w.heap.size w w' := by
  have hen := V.en
  have HV := Lib.hid V
  obtain ⟨i0, hif, hz0, hz1, hz2⟩ := info_parts Tryz.infoInt
  clear V
  go_enter Tryz.func83, Tryz.ntmps83
  go_wp2
  go_loopw [3, 5] (fun r i wr => ∃ m : Nat, m ≤ 104 ∧ i = .int .i64 m ∧ Hid (wr.ownsRow w.heap.size 3 1 r m (icells (varsL o m))) ∧ Hid (Below w.heap.size w wr)) (fun _ i _ => 104 - (intOf i).toNat)
  case atStart => exact ⟨0, by omega, rfl, Lib.hid (World.ownsRow_nil _ _ _ _), Lib.hid (Below.refl _ _)⟩
  case round =>
    obtain ⟨m, hm, rfl, HO, HB⟩ := hrel
    by_cases hlt : m < 104
    · have hI : (m : Int) < 104 := by omega
      obtain ⟨x, hx⟩ : ∃ x, x = 2 * m + o := ⟨_, rfl⟩
      have HN := Lib.hid (show ∀ W, Calls Tryz.prog vf #[.int .i64 m] W (fun e w' => e = .returned (.int .i64 (x : Int)) ∧ w' = W) from fun W => by
        have := HV.out.calls m W (by omega)
        rw [← hx] at this
        exact this)
      have HX := Lib.hid hx
      have hbs := HB.out.size
      have hml : m ≤ 1099511627776 := by omega
      obtain ⟨Ar, cr, hr, _⟩ := owns_form HO.out
      subst hr
      clear hx
      go_upto_region 5 with fail
      go_wp2_with (first
        | ((with_reducible refine (HN.out _).mono ?_); rintro e _ ⟨rfl, rfl⟩)
        | (at_builtin; refine wpList_push2 (v := .slice Ar m cr) rfl _ _ 33 rfl 3 i0 _ 1 8 Tryz.underlying33 hif hz0 hz1 hz2 rfl (by decide) (by decide) [.int .i64 x] rfl rfl rfl HO.out rfl (one_i64 _) hml hbs ?_; intro v2 w2 hown2 hg2 hmv2; have HO2 := Lib.hid hown2; have HB2 := Lib.hid (below_grown HB.out hbs hg2 (fun g hg => (HO.out.lt g hg).1)); clear hown2 hg2 hmv2))
      exact ⟨⟨m + 1, by omega, by go_num, Lib.hid (by rw [varsL_snoc, ← HX.out]; simpa [icells] using HO2.out), HB2⟩, by simp only [intOf]; omega⟩
    · obtain rfl : m = 104 := by omega
      have hI : ¬ ((104 : Nat) : Int) < 104 := by omega
      go_wp2
      go_ret
      exact ⟨_, rfl, HO.out, HB.out⟩
end Go.Proofs.YtbahehmfhjkgeaaGreat

/-
  No number of a list does what is asked; are variables known; a number times 2 to the 104.
-/
namespace Go.Proofs.YtbahehmfhjkgeaaGreat
open Go Go.RowKit Go.ChangeMaps Go.MapKept Go.Maps Go.Lib Go.Sort

section
set_option maxRecDepth 100000
set_option maxHeartbeats 4000000
theorem indexNone (L : List Int) (v : Value) (g : FuncId) (lb : Array Value) (w : World) (en : ∀ (args : Array Value) (w : World), (callFunc g args).run Tryz.prog w = .ok (.enter g args) w)
    (hp : ∀ W x, Below w.heap.size w W → x ∈ L → Calls Tryz.prog g (#[.int .i64 x] ++ lb) W fun e W' => e = .returned (.bool false) ∧ Below W.heap.size W W') (h : Rd w w.heap.size 1 v L.length (icells L)) (hlen : L.length ≤ 1000) :
    Calls Tryz.prog 218 #[v, .func (.func g) #[] lb] w fun e w' => e = .returned (.int .i64 (-1)) ∧ Below w.heap.size w w' := by
  obtain ⟨A, c, rfl, hc⟩ := h.form
  have HP := Lib.hid hp
  have HR := Lib.hid h
  clear hp h
  go_enter Tryz.func218, Tryz.ntmps218
  go_wp2
  go_loopw [8] (fun i wr => ∃ k : Nat, i = .int .i64 k ∧ k ≤ L.length ∧ Hid (Below w.heap.size w wr)) (fun i _ => L.length - (intOf i).toNat)
  case atStart => exact ⟨0, rfl, by omega, Lib.hid (Below.refl _ _)⟩
  case round =>
    obtain ⟨k, rfl, hk, HB⟩ := hrel
    by_cases hlt : k < L.length
    · have hI : (k : Int) < (L.length : Int) := by omega
      obtain ⟨x, hx⟩ : ∃ x, L[k]? = some x := ⟨_, List.getElem?_eq_getElem hlt⟩
      obtain ⟨b, off, c', hv, _, hbB, hcell⟩ := HR.out.pos (by omega)
      injection hv with hv1 hvl hv3
      subst hv1 hv3
      clear hvl
      have c0 : wr.cell? ⟨b, off + k, none⟩ = some (.int .i64 x) := (HB.out.cell (p := ⟨b, off + k, none⟩) hbB).trans (hcell k _ (by simp [icells, hx]))
      have HC := Lib.hid (HP.out wr x HB.out (List.mem_of_getElem? hx))
      clear hcell hx
      go_wp2_with fail
      refine HC.out.mono ?_
      rintro e w1 ⟨rfl, hb1⟩
      have HB1 := Lib.hid (HB.out.trans (hb1.mono HB.out.size))
      clear hb1 c0 HC
      go_wp2
      exact ⟨⟨k + 1, by go_num, by omega, HB1⟩, by simp only [intOf]; omega⟩
    · obtain rfl : k = L.length := by omega
      have hI : ¬ (L.length : Int) < (L.length : Int) := by omega
      go_wp2
      go_ret
      exact ⟨rfl, HB.out⟩
theorem containsNone (L : List Int) (v : Value) (g : FuncId) (lb : Array Value) (w : World) (en : ∀ (args : Array Value) (w : World), (callFunc g args).run Tryz.prog w = .ok (.enter g args) w)
    (hp : ∀ W x, Below w.heap.size w W → x ∈ L → Calls Tryz.prog g (#[.int .i64 x] ++ lb) W fun e W' => e = .returned (.bool false) ∧ Below W.heap.size W W') (h : Rd w w.heap.size 1 v L.length (icells L)) (hlen : L.length ≤ 1000) :
    Calls Tryz.prog 205 #[v, .func (.func g) #[] lb] w fun e w' => e = .returned (.bool false) ∧ Below w.heap.size w w' := by
  have HI := Lib.hid (indexNone L v g lb w en hp h hlen)
  obtain ⟨A, c, rfl, hc⟩ := h.form
  clear hp h
  go_enter Tryz.func205, Tryz.ntmps205
  go_wp2_with fail
  refine HI.out.mono ?_
  rintro e w1 ⟨rfl, hb⟩
  have HB := Lib.hid hb
  clear hb HI
  go_wp2
  go_ret
  exact ⟨rfl, HB.out⟩
variable {B : Nat} {A : Blks} {V Mo : Nat} {N : List Nd} {H G : List Nat}
theorem knownClos {w : World} (hA : ArAt w B A V Mo N H G) (bx : Nat) (hb : w.cell? ⟨bx, 0, none⟩ = some (.pointer (some ⟨A.a, 0, none⟩))) (x : Int) (hx : 0 ≤ x ∧ x < V) :
    Calls Tryz.prog 211 #[.int .i64 x, .pointer (some ⟨bx, 0, none⟩)] w fun e w' => e = .returned (.bool false) ∧ Below w.heap.size w w' := by
  obtain ⟨nv, ha⟩ := hA
  have a0 : w.cell? ⟨A.a, 0, none⟩ = some (.int .i64 V) := ha.cellAt rfl
  have h0 : ¬ x < 0 := by omega
  have h1 : ¬ (V : Int) ≤ x := by omega
  clear ha
  go_enter Tryz.func211, Tryz.ntmps211
  go_wp2
  go_ret
  exact ⟨rfl, Below.refl _ _⟩
theorem known_yes {w : World} (hA : ArAt w B A V Mo N H G) (L : List Int) (v : Value) (h : Rd w w.heap.size 1 v L.length (icells L)) (hL : ∀ x ∈ L, 0 ≤ x ∧ x < V) (hlen : L.length ≤ 1000) :
    Calls Tryz.prog 183 #[A.val, v] w fun e w' => e = .returned (.bool true) ∧ Below w.heap.size w w' := by
  obtain ⟨PL, c, rfl, hc⟩ := h.form
  have hb := below1 w (.cells #[.pointer (some ⟨A.a, 0, none⟩)] 108)
  have hk := blk1 w (.cells #[.pointer (some ⟨A.a, 0, none⟩)] 108)
  have HC := Lib.hid (containsNone L (.slice PL L.length c) 211 #[.pointer (some ⟨w.heap.size, 0, none⟩)] (w.alloc (.cells #[.pointer (some ⟨A.a, 0, none⟩)] 108)) (enters_of Tryz.func211 (by kernel_rfl) rfl)
    (fun W x hW hx => knownClos ((hA.below hb).below hW) w.heap.size (cell0 (blk_below hW hk)) x (hL x hx)) ((h.below hb).mono hb.size) hlen)
  have HB := Lib.hid hb
  clear hA h hb hk
  unfold Blks.val
  go_enter Tryz.func183, Tryz.ntmps183
  go_wp2_with fail
  refine HC.out.mono ?_
  rintro e w1 ⟨rfl, hb1⟩
  have HB1 := Lib.hid (HB.out.trans (hb1.mono HB.out.size))
  clear hb1 HC
  go_wp2
  go_ret
  exact ⟨rfl, HB1.out⟩
theorem results_cnt1 {fn : Func} {tmps : Array Value} {w : World} {g : Nat} {a b : Int} {t1 : Nat} (hf : fn.results = #[.cell t1 85]) (h1 : tmps.getD t1 undef = .pointer (some ⟨g, 0, none⟩)) (k1 : w.heap[g]? = some (.cells #[.int .u64 a, .int .u64 b] 85 (0, 0))) :
    (results fn tmps).run Tryz.prog w = .ok (.agg #[.int .u64 a, .int .u64 b]) w := by
  obtain ⟨c0, c1, _, _⟩ := two_cells k1
  have h1' : tmps[t1]?.getD undef = .pointer (some ⟨g, 0, none⟩) := by simpa using h1
  simp [results, hf, h1', go_sem, c0, c1]
theorem results_cnt2 {fn : Func} {tmps : Array Value} {w : World} {g : Nat} {a b : Int} {e : Value} {t1 t3 : Nat} (hf : fn.results = #[.cell t1 85, .tmp t3]) (h1 : tmps.getD t1 undef = .pointer (some ⟨g, 0, none⟩)) (h3 : tmps.getD t3 undef = e) (k1 : w.heap[g]? = some (.cells #[.int .u64 a, .int .u64 b] 85 (0, 0))) :
    (results fn tmps).run Tryz.prog w = .ok (.tuple #[.agg #[.int .u64 a, .int .u64 b], e]) w := by
  obtain ⟨c0, c1, _, _⟩ := two_cells k1
  have h1' : tmps[t1]?.getD undef = .pointer (some ⟨g, 0, none⟩) := by simpa using h1
  have h3' : tmps[t3]?.getD undef = e := by simpa using h3
  simp [results, hf, h1', h3', go_sem, c0, c1]
end
end Go.Proofs.YtbahehmfhjkgeaaGreat

/-
  Do variables rise, at a terminal.
-/
namespace Go.Proofs.YtbahehmfhjkgeaaGreat
open Go Go.RowKit Go.ChangeMaps Go.MapKept Go.Maps Go.Lib Go.Sort

/-- A list of numbers that rises. -/
def RiseL (L : List Int) : Prop := ∀ (k : Nat) (x y : Int), L[k + 1]? = some x → L[k]? = some y → y < x
theorem varsL_rise (o n : Nat) : RiseL (varsL o n) := by
  intro k x y hx hy
  have h1 := (List.getElem?_eq_some_iff.1 hx).1
  rw [varsL_len] at h1
  rw [varsL_get o n h1] at hx
  rw [varsL_get o n (by omega)] at hy
  injection hx with hx
  injection hy with hy
  omega
theorem varsL_in (n : Nat) : ∀ x ∈ varsL 0 n, 0 ≤ x ∧ x < 2 * n := by
  intro x hx
  obtain ⟨i, hi, rfl⟩ := List.mem_map.1 hx
  have := List.mem_range.1 hi
  omega
section
set_option maxRecDepth 100000
set_option maxHeartbeats 4000000
variable {B : Nat} {A : Blks} {V Mo : Nat} {N : List Nd} {H G : List Nat}
end
end Go.Proofs.YtbahehmfhjkgeaaGreat

/-
  For how many values the whole is true.
-/
namespace Go.Proofs.YtbahehmfhjkgeaaGreat
open Go Go.RowKit Go.ChangeMaps Go.MapKept Go.Maps Go.Lib Go.Sort

section
set_option maxRecDepth 100000
set_option maxHeartbeats 4000000
/-- What Count's map holds at first. -/
noncomputable def cnt0 : List (Value × Value) := putM (putM [] (.int .i32 0) (.agg #[.int .u64 0, .int .u64 0])) (.int .i32 1) (.agg #[.int .u64 0, .int .u64 1])
theorem cnt0_1 : getM cnt0 (.int .i32 1) = some (.agg #[.int .u64 0, .int .u64 1]) := by
  unfold cnt0 putM getM
  simp
theorem zero_cnt (w : World) : (zeroValue 85).run Tryz.prog w = .ok (.agg #[.int .u64 0, .int .u64 0]) w := by kernel_rfl
variable {B : Nat} {A : Blks} {V Mo : Nat} {N : List Nd} {H G : List Nat}
end
end Go.Proofs.YtbahehmfhjkgeaaGreat

/-
  Walks over the filter's layer: what a rule may be, and which headers fit it; the program's and the reference's (written by wip/gen/genfilter.py).
-/
namespace Go.Proofs.YtbahehmfhjkgeaaGreat
open Go Go.RowKit

/-- A rule, its numbers within their kinds. -/
structure RuleV where
  permit : Bool
  proto : Int
  sa : Int
  sn : Int
  da : Int
  dn : Int
  sl : Int
  sh : Int
  dl : Int
  dh : Int
  hpr : -9223372036854775808 ≤ proto ∧ proto ≤ 9223372036854775807
  hsa : 0 ≤ sa ∧ sa < 4294967296
  hda : 0 ≤ da ∧ da < 4294967296
  hsl : 0 ≤ sl ∧ sl < 4294967296
  hsh : 0 ≤ sh ∧ sh < 4294967296
  hdl : 0 ≤ dl ∧ dl < 4294967296
  hdh : 0 ≤ dh ∧ dh < 4294967296
/-- A header, its numbers within their kinds. -/
structure HeaderV where
  src : Int
  dst : Int
  proto : Int
  sp : Int
  dp : Int
  hsrc : 0 ≤ src ∧ src < 4294967296
  hdst : 0 ≤ dst ∧ dst < 4294967296
  hproto : 0 ≤ proto ∧ proto ≤ 255
  hsp : 0 ≤ sp ∧ sp ≤ 65535
  hdp : 0 ≤ dp ∧ dp ≤ 65535

def portsB (lo hi : Int) : Bool := decide (lo ≤ hi) && decide (hi ≤ 65535)
def mayB (r : RuleV) : Bool := decide (-1 ≤ r.proto) && decide (r.proto ≤ 255) && decide (chk r.sa r.sn = 0) && decide (chk r.da r.dn = 0) && portsB r.sl r.sh && portsB r.dl r.dh
def inP (lo hi x : Int) : Bool := decide (lo ≤ x) && decide (x ≤ hi)
def fitsB (r : RuleV) (h : HeaderV) : Bool := decide (chk r.sa r.sn = 0) && decide (chk r.da r.dn = 0) && inB h.src r.sa r.sn && inB h.dst r.da r.dn && (decide (r.proto = -1) || decide (r.proto = h.proto)) && inP r.sl r.sh h.sp && inP r.dl r.dh h.dp

end Go.Proofs.YtbahehmfhjkgeaaGreat

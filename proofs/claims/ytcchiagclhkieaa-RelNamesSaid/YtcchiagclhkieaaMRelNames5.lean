/-
  Joined texts: Rb1, Rc1, Rd0, Rf1, Re1, Rh1, Rh2, MixS.
-/
import Derived.Test.YtcchiagclhkieaaMRelNames4
import Derived.Deep.CutBlock
import Derived.IntWalk
import Derived.Laws.BitsAllLaws
import Derived.Deep.RegionHeld3
import Derived.Deep.DeepCutAuto
import Derived.Test.YtcchiagclhkieaaMRelNames2
/-
  A number's bits laid in a space.
-/
namespace Go.Proofs.Ytcchiagclhkieaa
open Go Go.RowKit Go.ChangeMaps Go.MapKept Go.Maps Go.Lib Go.Sort

def litF (x : Nat) (b : Bool) (F : Fun) : Fun := fun s => (s x == b) && F s
/-- The last m bits of a field's n, read from the last one up, are v's. -/
def bitsF (a o n v : Nat) : Nat → Fun
  | 0 => fun _ => true
  | m + 1 => litF (2 * (a + (n - 1 - m)) + o) (v.testBit m) (bitsF a o n v m)
theorem Hangs.lit {F : Fun} {x a b : Nat} (c : Bool) (h : Hangs F a b) (h1 : x ≤ a) (h2 : x < b) : Hangs (litF x c F) x b := fun s t e => by
  unfold litF
  rw [e x (Nat.le_refl _) h2, h s t fun u h3 h4 => e u (by omega) h4]
theorem bitsF_hangs (a o n v : Nat) (ho : o < 2) : ∀ m, m ≤ n → Hangs (bitsF a o n v m) (2 * (a + (n - m)) + o) (2 * (a + n) + o)
  | 0, _ => Hangs.const true _ _
  | m + 1, hm => by
    have := bitsF_hangs a o n v ho m (by omega)
    rw [show n - (m + 1) = n - 1 - m from by omega]
    exact this.lit _ (by omega) (by omega)
theorem SpRes.after {w w1 w' : World} {B S km : Nat} {A : Blks} {Mo : Nat} {σ τ : Sg} {F : Fun} {k m k' m' : Nat} {e : Ending} (t : To k m σ τ) (hk : KeptS A km w w1) (h : SpRes w1 B S km A Mo τ F k' m' e w') : SpRes w B S km A Mo σ F (k + k') (m + m') e w' := by
  refine ⟨hk.trans h.1, ?_⟩
  rcases h.2 with ⟨h1, h2, τ', h3, h4⟩ | ⟨r, τ', h1, h2, h3, h4⟩
  · exact .inl ⟨h1, by have := t.hl; omega, τ', h3, t.trans h4⟩
  · exact .inr ⟨r, τ', h1, h2, t.trans h3, h4⟩
theorem SpRes.mono {w w' : World} {B S km : Nat} {A : Blks} {Mo : Nat} {σ : Sg} {F : Fun} {k m k' m' : Nat} {e : Ending} (h : SpRes w B S km A Mo σ F k m e w') (hk : k ≤ k') (hm : m ≤ m') : SpRes w B S km A Mo σ F k' m' e w' := by
  refine ⟨h.1, ?_⟩
  rcases h.2 with ⟨h1, h2, τ', h3, h4⟩ | ⟨r, τ', h1, h2, h3, h4⟩
  · exact .inl ⟨h1, by omega, τ', h3, h4.mono hk hm⟩
  · exact .inr ⟨r, τ', h1, h2, h3.mono hk hm, h4⟩
/-- No room: whatever was asked. -/
theorem SpRes.full {w w' : World} {B S km : Nat} {A : Blks} {Mo : Nat} {σ τ : Sg} {F : Fun} {k m : Nat} {e : Ending} (hk : KeptS A km w w') (h1 : e = .returned (.tuple #[.int .i64 0, .int .i64 3])) (h2 : Mo < σ.H.length + m) (h3 : SpOk w' B S km A Mo τ) (h4 : To k m σ τ) : SpRes w B S km A Mo σ F k m e w' :=
  ⟨hk, .inl ⟨h1, h2, τ, h3, h4⟩⟩
theorem Den.lit {Mo : Nat} {σ : Sg} {g x : Nat} {F : Fun} (a : Den σ g F) (o : SgOk Mo σ) (hx : x < 208) (hF : Hangs F (x + 1) 256) (b : Bool) : Grow σ.N σ.H (litF x b F) 1 1 := by
  cases b
  · have := (Den.zero o).step a o hx (Hangs.const false _ _) hF
    rw [show (fun s : Nat → Bool => if s x then false else F s) = litF x false F from funext fun s => by unfold litF; cases s x <;> rfl] at this
    exact this
  · have := a.step (Den.zero o) o hx hF (Hangs.const false _ _)
    rw [show (fun s : Nat → Bool => if s x then F s else false) = litF x true F from funext fun s => by unfold litF; cases s x <;> rfl] at this
    exact this
theorem Den.notvar {Mo : Nat} {σ : Sg} {x : Nat} (o : SgOk Mo σ) (hx : x < 208) : Grow σ.N σ.H (fun s => !s x) 1 1 := by
  have := (Den.zero o).step (Den.one o) o hx (Hangs.const false _ _) (Hangs.const true _ _)
  rw [show (fun s : Nat → Bool => if s x then false else true) = fun s => !s x from funext fun s => by cases s x <;> rfl] at this
  exact this
set_option maxHeartbeats 400000 in
theorem now_any (i : Nat) (w : World) (hi : i < 1000) : Calls Try.prog 17 #[.int .i64 i] w fun e w' => e = .returned (.int .i64 ((2 * i + 0 : Nat) : Int)) ∧ w' = w := by
  go_enter Try.func17, Try.ntmps17
  go_wp2
  go_ret
  exact ⟨by go_num, rfl⟩
set_option maxHeartbeats 400000 in
theorem then_any (i : Nat) (w : World) (hi : i < 1000) : Calls Try.prog 23 #[.int .i64 i] w fun e w' => e = .returned (.int .i64 ((2 * i + 1 : Nat) : Int)) ∧ w' = w := by
  go_enter Try.func23, Try.ntmps23
  go_wp2
  go_ret
  exact ⟨by go_num, rfl⟩
/-- A function of bits: the bit's variable. -/
structure VarF (vf : FuncId) (o : Nat) : Prop where
  o2 : o < 2
  en : ∀ (args : Array Value) (w : World), (callFunc vf args).run Try.prog w = .ok (.enter vf args) w
  calls : ∀ (i : Nat) (w : World), i < 1000 → Calls Try.prog vf #[.int .i64 i] w fun e w' => e = .returned (.int .i64 ((2 * i + o : Nat) : Int)) ∧ w' = w
theorem nowF : VarF 17 0 := ⟨by omega, fun _ _ => by go_simp, now_any⟩
theorem thenF : VarF 23 1 := ⟨by omega, fun _ _ => by go_simp, then_any⟩
theorem bit_u64 (v m : Nat) (hv : v < 4294967296) : bits .and .u64 ((v : Int) / 2 ^ m) 1 = if v.testBit m then 1 else 0 := by
  have e : ((v : Int) / 2 ^ m) = ((v / 2 ^ m : Nat) : Int) := by
    simp
  have hlt : v / 2 ^ m ≤ v := Nat.div_le_self _ _
  rw [e, show (1 : Int) = ((1 : Nat) : Int) from rfl, u64_and_nat _ _ (by omega) (by omega), Nat.and_one_is_mod, Nat.testBit_eq_decide_div_mod_eq]
  have : v / 2 ^ m % 2 = 0 ∨ v / 2 ^ m % 2 = 1 := by omega
  rcases this with h | h <;> simp [h]
theorem SpRes.two {w w' : World} {B S km : Nat} {A : Blks} {Mo : Nat} {σ : Sg} {F : Fun} {k m : Nat} {q c : Int} (h : SpRes w B S km A Mo σ F k m (.returned (.tuple #[.int .i64 q, .int .i64 c])) w') :
    (q = 0 ∧ c = 3 ∧ Mo < σ.H.length + m ∧ ∃ τ, SpOk w' B S km A Mo τ ∧ To k m σ τ) ∨ ∃ (r : Nat) (τ : Sg), q = r ∧ c = 0 ∧ SpOk w' B S km A Mo τ ∧ To k m σ τ ∧ Den τ r F := by
  rcases h.2 with ⟨h1, h2⟩ | ⟨r, τ, h1, h2⟩
  · injection h1 with h1
    simp at h1
    exact .inl ⟨h1.1, h1.2, h2⟩
  · injection h1 with h1
    simp at h1
    exact .inr ⟨r, τ, h1.1, h1.2, h2⟩
theorem SpRes.c0 {w w' : World} {B S km : Nat} {A : Blks} {Mo : Nat} {σ : Sg} {F : Fun} {k m : Nat} {e : Ending} (h : SpRes w B S km A Mo σ F k m e w') : w'.cell? ⟨S, 0, none⟩ = some (.pointer (some ⟨A.a, 0, none⟩)) := by
  rcases h.2 with ⟨_, _, _, h, _⟩ | ⟨_, _, _, h, _⟩ <;> exact h.sp.c0
set_option maxRecDepth 100000 in
set_option maxHeartbeats 2000000 in
theorem bits_any {w : World} {B S km : Nat} {A : Blks} {Mo : Nat} {σ : Sg} (h : SpOk w B S km A Mo σ) {vf : FuncId} {o : Nat} (V : VarF vf o) (a n v : Nat) (hn : a + n ≤ 104) (hn32 : n ≤ 32) (hv : v < 4294967296) (hl : σ.N.length + 3 * n ≤ 2147483647) :
    Calls Try.prog 16 #[.pointer (some ⟨S, 0, none⟩), .int .i64 a, .int .i64 n, .int .u64 v, .func (.func vf) #[] #[]] w (SpRes w B S km A Mo σ (bitsF a o n v n) (3 * n) (3 * n)) := by
  have HS := Lib.hid h
  have hen := V.en
  have HV := Lib.hid V
  have hn1 : (n : Int) ≤ 104 := by omega
  have ha1 : (a : Int) ≤ 104 := by omega
  clear h V
  go_enter Try.func16, Try.ntmps16
  go_wp2
  go_loopw [12, 13] (fun f i wr => ∃ m : Nat, m ≤ n ∧ i = .int .i64 ((n : Int) - 1 - m) ∧ ∃ (r : Nat) (τ : Sg), f = .int .i64 r ∧ Hid (SpOk wr B S km A Mo τ) ∧ Hid (To (3 * m) (3 * m) σ τ) ∧ Hid (Den τ r (bitsF a o n v m)) ∧ Hid (KeptS A km w wr)) (fun _ i _ => (intOf i + 1).toNat)
  case atStart => exact ⟨0, by omega, by simp, 1, σ, rfl, HS, Lib.hid (To.refl σ), Lib.hid (Den.one HS.out.ok), Lib.hid (KeptS.refl _ _ _)⟩
  case round =>
    obtain ⟨m, hm, rfl, r, τ, rfl, HS1, HT1, HD1, HK1⟩ := hrel
    by_cases hlt : m < n
    · have hI : (n : Int) - 1 - m ≥ 0 := by omega
      have c0 := HS1.out.sp.c0
      obtain ⟨x, hx⟩ : ∃ x, x = 2 * (a + (n - 1 - m)) + o := ⟨_, rfl⟩
      have hxi : ((a + (n - 1 - m) : Nat) : Int) = (a : Int) + ((n : Int) - 1 - m) := by omega
      have ho := HV.out.o2
      have HN := Lib.hid (show ∀ W, Calls Try.prog vf #[.int .i64 ((a : Int) + ((n : Int) - 1 - m))] W (fun e w' => e = .returned (.int .i64 (x : Int)) ∧ w' = W) from fun W => by
        have := HV.out.calls (a + (n - 1 - m)) W (by omega)
        rw [hxi, ← hx] at this
        exact this)
      have hwd : Below wr.heap.size wr wr.drew := ⟨rfl, rfl, rfl, Nat.le_refl _, fun _ _ => rfl⟩
      have HSD := Lib.hid (HS1.out.below hwd)
      have HKD := Lib.hid (HK1.out.trans (HS1.out.kept hwd))
      have hnl := HT1.out.nl
      have hvar := Lib.hid (HSD.out.var x (by omega) (by omega))
      have hw1 : IntKind.i64.wrap ((a : Int) + ((n : Int) - 1 - m)) = (a : Int) + ((n : Int) - 1 - m) := IntWalk.i64_in _ (by omega)
      have HX := Lib.hid hx
      clear hxi hnl hwd ho hx
      go_upto_region 5 with fail
      go_region_held3 (fun w' => w'.cell? ⟨S, 0, none⟩ = some (.pointer (some ⟨A.a, 0, none⟩))) (first | exact hcs | go_keep) ((first
        | ((with_reducible refine (HN.out _).mono ?_); rintro e _ ⟨rfl, rfl⟩)
        | ((with_reducible refine hvar.out.mono ?_); rintro e W5 hr5; obtain ⟨q5, c5, he5⟩ := hr5.form; have HR5 := Lib.hid hr5; subst he5; have hcs : W5.cell? ⟨S, 0, none⟩ = some (.pointer (some ⟨A.a, 0, none⟩)) := hr5.c0; clear hr5)))
      have hfin5 := HR5.out.two
      clear hcs
      rcases hfin5 with ⟨rfl, rfl, hlt5, τ5, hs5, ht5⟩ | ⟨r5, τ5, rfl, rfl, hs5, ht5, hd5⟩
      · have HFIN := Lib.hid (SpRes.full (F := bitsF a o n v n) (HKD.out.trans HR5.out.1) rfl (by have := HT1.out.hl; omega) hs5 ((HT1.out.trans ht5).mono (show 3 * m + 1 ≤ 3 * n by omega) (show 3 * m + 1 ≤ 3 * n by omega)))
        clear hlt5 hs5 ht5
        go_wp2
        go_ret2
        exact HFIN.out
      · have HS5 := Lib.hid hs5
        have HT5 := Lib.hid (HT1.out.trans ht5)
        have HD5 := Lib.hid hd5
        have HK5 := Lib.hid (HKD.out.trans HR5.out.1)
        have c5 := hs5.sp.c0
        have HD5r := Lib.hid (HD1.out.to ht5 HS1.out.ok hs5.ok)
        clear hs5 ht5 hd5 HR5 hvar HN
        have hsh : (n : Int) - 1 - ((n : Int) - 1 - m) = m := by omega
        have hn5 := HT5.out.nl
        have hh5 := HT5.out.hl
        have hxl : x < 208 := by have := HX.out; have := HV.out.o2; omega
        have HLF : Hid (∀ (W : World) (q : Nat) (τ6 : Sg) (k : Nat), k ≤ 1 → SpOk W B S km A Mo τ6 → To k k τ5 τ6 → KeptS A km w W → Den τ6 q (fun s => s x == v.testBit m) → Calls Try.prog 18 #[.pointer (some ⟨A.a, 0, none⟩), .int .i64 q, .int .i64 r] W (fun e w' => ∃ Q C : Int, e = .returned (.tuple #[.int .i64 Q, .int .i64 C]) ∧ ((Q = 0 ∧ C = 3 ∧ SpRes w B S km A Mo σ (bitsF a o n v n) (3 * n) (3 * n) e w') ∨
            ∃ (r' : Nat) (τ' : Sg), Q = r' ∧ C = 0 ∧ SpOk w' B S km A Mo τ' ∧ To (3 * (m + 1)) (3 * (m + 1)) σ τ' ∧ Den τ' r' (bitsF a o n v (m + 1)) ∧ KeptS A km w w'))) := Lib.hid (by
          intro W q τ6 k hk h6 t6 k6 d6
          have hrd := HD5r.out.to t6 HS5.out.ok h6.ok
          have hgr := hrd.lit h6.ok hxl ((bitsF_hangs a o n v HV.out.o2 m hm).mono (show x + 1 ≤ 2 * (a + (n - m)) + o by have := HX.out; omega) (by have := HV.out.o2; omega)) (v.testBit m)
          have n6 := t6.nl
          have l6 := t6.hl
          have t7 := HT5.out.trans t6
          refine (h6.and d6 hrd (a := 1) (b := 1) hgr (by omega)).mono fun e w' hr => ?_
          obtain ⟨Q, C, rfl⟩ := hr.form
          refine ⟨Q, C, rfl, ?_⟩
          rcases hr.two with ⟨h1, h2, h3, τ', h4, h5⟩ | ⟨r', τ', h1, h2, h4, h5, h6⟩
          · subst h1 h2
            exact .inl ⟨rfl, rfl, SpRes.full (k6.trans hr.1) rfl (by omega) h4 ((t7.trans h5).mono (by omega) (by omega))⟩
          · refine .inr ⟨r', τ', h1, h2, h4, (t7.trans h5).mono (by omega) (by omega), ?_, k6.trans hr.1⟩
            have : bitsF a o n v (m + 1) = fun s => (s x == v.testBit m) && bitsF a o n v m s := by rw [HX.out]; rfl
            rw [this]
            exact h6)
        clear hn5 hh5 hxl HD5r
        cases hb : v.testBit m with
        | false =>
          have hbit : bits .and .u64 ((v : Int) / 2 ^ m) 1 = 0 := by rw [bit_u64 v m hv, hb]; rfl
          have hnot := Lib.hid (HS5.out.not HD5.out (a := 1) (b := 1) (Den.notvar HS5.out.ok (by have := HX.out; have := HV.out.o2; omega)) (by have := HT5.out.nl; omega))
          rw [hb] at HLF
          clear hb
          go_upto_region 10 with ((with_reducible refine hnot.out.mono ?_); rintro e W6 hr6; obtain ⟨q6, c6, he6⟩ := hr6.form; subst he6; have HR6 := Lib.hid hr6; clear hr6)
          rcases HR6.out.two with ⟨rfl, rfl, hlt6, τ6, hs6, ht6⟩ | ⟨r6, τ6, rfl, rfl, hs6, ht6, hd6⟩
          · have HFIN := Lib.hid (SpRes.full (F := bitsF a o n v n) (HK5.out.trans HR6.out.1) rfl (by have := HT5.out.hl; omega) hs6 ((HT5.out.trans ht6).mono (show 3 * m + 1 + 1 ≤ 3 * n by omega) (show 3 * m + 1 + 1 ≤ 3 * n by omega)))
            clear hlt6 hs6 ht6
            go_wp2
            go_ret2
            exact HFIN.out
          · have c6 := hs6.sp.c0
            have HAND := Lib.hid (HLF.out W6 r6 τ6 1 (by omega) hs6 ht6 (HK5.out.trans HR6.out.1) (by
              refine ⟨hd6.1, fun s => (hd6.2 s).trans ?_⟩
              show (!s x) = (s x == false)
              cases s x <;> rfl))
            clear hs6 ht6 hd6 HR6 hnot HLF c5
            go_upto_region 13 with ((with_reducible refine HAND.out.mono ?_); rintro e W7 ⟨q7, c7, he7, hr7⟩; subst he7; have HR7 := Lib.hid hr7; clear hr7)
            rcases HR7.out with ⟨rfl, rfl, hr⟩ | ⟨r7, τ7, rfl, rfl, hs7, ht7, hd7, hk7⟩
            · have HFIN := Lib.hid hr
              clear hr HR7
              go_wp2
              go_ret2
              exact HFIN.out
            · have HS7 := Lib.hid hs7
              have HT7 := Lib.hid ht7
              have HD7 := Lib.hid hd7
              have HK7 := Lib.hid hk7
              clear hs7 ht7 hd7 hk7 HR7 HAND
              go_wp2
              exact ⟨⟨m + 1, by omega, by go_num, r7, τ7, rfl, HS7, HT7, HD7, HK7⟩, by simp only [intOf]; omega⟩
        | true =>
          have hbit : bits .and .u64 ((v : Int) / 2 ^ m) 1 = 1 := by rw [bit_u64 v m hv, hb]; rfl
          rw [hb] at HLF
          have HAND := Lib.hid (HLF.out W5 r5 τ5 0 (by omega) HS5.out (To.refl _) HK5.out (by
              refine ⟨HD5.out.1, fun s => (HD5.out.2 s).trans ?_⟩
              show s x = (s x == true)
              cases s x <;> rfl))
          clear HLF hb
          go_upto_region 13 with ((with_reducible refine HAND.out.mono ?_); rintro e W7 ⟨q7, c7, he7, hr7⟩; subst he7; have HR7 := Lib.hid hr7; clear hr7)
          rcases HR7.out with ⟨rfl, rfl, hr⟩ | ⟨r7, τ7, rfl, rfl, hs7, ht7, hd7, hk7⟩
          · have HFIN := Lib.hid hr
            clear hr HR7
            go_wp2
            go_ret2
            exact HFIN.out
          · have HS7 := Lib.hid hs7
            have HT7 := Lib.hid ht7
            have HD7 := Lib.hid hd7
            have HK7 := Lib.hid hk7
            clear hs7 ht7 hd7 hk7 HR7 HAND
            go_wp2
            exact ⟨⟨m + 1, by omega, by go_num, r7, τ7, rfl, HS7, HT7, HD7, HK7⟩, by simp only [intOf]; omega⟩
    · obtain rfl : m = n := by omega
      have hI : ¬ (m : Int) - 1 - m ≥ 0 := by omega
      have HFIN : Hid (SpRes w B S km A Mo σ (bitsF a o m v m) (3 * m) (3 * m) (.returned (.tuple #[.int .i64 r, .int .i64 0])) wr) := Lib.hid ⟨HK1.out, .inr ⟨r, τ, rfl, HS1.out, HT1.out, HD1.out⟩⟩
      go_wp2
      go_ret2
      exact HFIN.out
end Go.Proofs.Ytcchiagclhkieaa

/-
  What a space checks: nodes, and sets.
-/
namespace Go.Proofs.Ytcchiagclhkieaa
open Go Go.RowKit Go.ChangeMaps Go.MapKept Go.Maps Go.Lib Go.Sort

/-- A list of numbers in memory, in a block that is none of the space's. -/
structure RowI (A : Blks) (km : Nat) (w : World) (v : Value) (l : List Int) : Prop where
  form : ∃ (P : Option Addr) (c : Nat), v = .slice P l.length c ∧ ∀ (i : Nat) x, l[i]? = some x → ∃ g, P = some ⟨g, 0, none⟩ ∧ w.cell? ⟨g, i, none⟩ = some (.int .i64 x) ∧ Foreign A w g ∧ g ≠ km
  range : ∀ x ∈ l, -9223372036854775808 ≤ x ∧ x ≤ 9223372036854775807
theorem RowI.kept {A : Blks} {km : Nat} {w w' : World} {v : Value} {l : List Int} (h : RowI A km w v l) (k : KeptS A km w w') : RowI A km w' v l := by
  obtain ⟨P, c, hv, hc⟩ := h.form
  refine ⟨⟨P, c, hv, fun i x hx => ?_⟩, h.range⟩
  obtain ⟨g, h1, h2, h3, h4⟩ := hc i x hx
  exact ⟨g, h1, (World.cell?_of_block (k.same g h3 h4).1).trans h2, (k.same g h3 h4).2, h4⟩
theorem RowI.nil (A : Blks) (km : Nat) (w : World) : RowI A km w (.slice none 0 0) [] := ⟨⟨none, 0, rfl, fun i x h => by simp at h⟩, by simp⟩
def NodeOk (σ : Sg) (x : Int) : Prop := ∃ g ∈ σ.G, x = (g : Int)
def SetOk (σ : Sg) (x : Int) : Prop := ∃ g ∈ σ.G, x = (g : Int) ∧ IsSet σ.N g
def AllNum (σ : Sg) (sets nodes : List Int) : Prop := (∀ x ∈ nodes, NodeOk σ x) ∧ ∀ x ∈ sets, SetOk σ x
def Sg.know (σ : Sg) (K : List (Value × Value)) : Sg := ⟨σ.N, σ.H, σ.G, K⟩
/-- What is known turned, and nothing else. -/
theorem SpOk.knows {w w' : World} {B S km : Nat} {A : Blks} {Mo : Nat} {σ : Sg} (h : SpOk w B S km A Mo σ) {x : Int} {v : Value} (hm : MapAt Try.prog 3 w' km (putM σ.K (.int .i64 x) v)) (hg : w.grownBy w' (some km))
    (hv : ∃ g ∈ σ.G, x = (g : Int) ∧ (v = .int .i64 1 ∨ v = .int .i64 2 ∧ IsSet σ.N g)) : SpOk w' B S km A Mo (σ.know (putM σ.K (.int .i64 x) v)) ∧ KeptS A km w w' := by
  obtain ⟨nv, hA⟩ := h.sp.ar
  obtain ⟨a1, a2, a3⟩ := hA.calm hg.size fun k hk hf => hg.block k hk (fun e => hf (by injection e with e; rw [e]; exact h.sp.fk))
  have hS := lt_of_block h.sp.cells
  refine ⟨⟨⟨⟨nv, a1⟩, (hg.block S hS (fun e => h.sp.ne (by injection e))).trans h.sp.cells, a2 _ h.sp.fs, hm, a2 _ h.sp.fk, h.sp.ne⟩, ⟨h.ok.wf, h.ok.hok, h.ok.cl, h.ok.g, h.ok.g0, h.ok.g1, fun p hp => ?_, h.ok.mo, h.ok.le⟩⟩, ⟨hg.os, hg.tape, hg.output, hg.size, fun k hk hn => ⟨hg.block k hk.1 (fun e => hn (by injection e)), a2 k hk⟩⟩⟩
  have hp : p ∈ putM σ.K (.int .i64 x) v := hp
  unfold putM at hp
  obtain ⟨g, g1, g2, g3⟩ := hv
  split at hp
  · obtain ⟨q, hq, rfl⟩ := List.mem_map.1 hp
    split
    · exact ⟨g, g1, by rw [g2], g3⟩
    · exact h.ok.k q hq
  · rcases List.mem_append.1 hp with hp | hp
    · exact h.ok.k p hp
    · obtain rfl := List.mem_singleton.1 hp
      exact ⟨g, g1, by rw [g2], g3⟩
theorem isSet_iff {N : List Nd} (w : WF N) {g : Nat} (hg : g < N.length) : IsSet N g ↔ ∀ i, 2 ≤ i → Rch N g i → (nd N i).v % 2 = 0 := by
  constructor
  · intro h i h2 hr
    rcases Nat.mod_two_eq_zero_or_one (nd N i).v with e | e
    · exact e
    · exact absurd (h _ e) (not_free w hg hr h2)
  · intro h v hv
    refine free_of w hg fun j hj hr e => ?_
    have := h j hj hr
    omega
theorem SpOk.look {w : World} {B S km : Nat} {A : Blks} {Mo : Nat} {σ : Sg} (h : SpOk w B S km A Mo σ) (x : Int) (hx : -9223372036854775808 ≤ x ∧ x ≤ 9223372036854775807) :
    ∃ v : Int, (Instr.lookup 65 (.map (some km)) (.int .i64 x) false).run Try.prog w = .ok (.int .i64 v) w ∧ (v = 0 ∨ v = 1 ∧ NodeOk σ x ∨ v = 2 ∧ SetOk σ x) := by
  have h1 := h.sp.known.look i64_keyed Try.underlying65 (show (zeroValue 3).run Try.prog w = .ok (.int .i64 0) w by kernel_rfl) false (key_i64 hx)
  cases hg : getM σ.K (.int .i64 x) with
  | none =>
    rw [hg] at h1
    exact ⟨0, h1, .inl rfl⟩
  | some u =>
    rw [hg] at h1
    obtain ⟨g, g1, g2, g3⟩ := h.ok.k _ (getM_mem hg)
    have hxg : x = (g : Int) := by
      have g2 : Value.int .i64 x = .int .i64 (g : Int) := g2
      injection g2
    rcases g3 with g3 | ⟨g3, g4⟩
    · have g3 : u = .int .i64 1 := g3
      subst g3
      exact ⟨1, h1, .inr (.inl ⟨rfl, g, g1, hxg⟩)⟩
    · have g3 : u = .int .i64 2 := g3
      subst g3
      exact ⟨2, h1, .inr (.inr ⟨rfl, g, g1, hxg, g4⟩)⟩
theorem AllNum.snoc {P : Int → Prop} {l : List Int} {k : Nat} {x : Int} (h : ∀ y ∈ l.take k, P y) (hx : l[k]? = some x) (hp : P x) : ∀ y ∈ l.take (k + 1), P y := by
  intro y hy
  rw [List.take_add_one, hx] at hy
  rcases List.mem_append.1 hy with hy | hy
  · exact h y hy
  · simp at hy
    rw [hy]
    exact hp
/-- What checked comes to. -/
def ChRes (w : World) (B S km : Nat) (A : Blks) (Mo : Nat) (σ : Sg) (sets nodes : List Int) (e : Ending) (w' : World) : Prop :=
  ∃ K, SpOk w' B S km A Mo (σ.know K) ∧ KeptS A km w w' ∧ (e = .returned (.int .i64 0) ∧ AllNum σ sets nodes ∨ e = .returned (.int .i64 1) ∧ ¬ AllNum σ sets nodes)
set_option maxRecDepth 100000 in
set_option maxHeartbeats 4000000 in
theorem checked_any {w : World} {B S km : Nat} {A : Blks} {Mo : Nat} {σ : Sg} (h : SpOk w B S km A Mo σ) (sv nv : Value) (sets nodes : List Int) (hs : RowI A km w sv sets) (hn : RowI A km w nv nodes) (ls : sets.length ≤ 1000) (ln : nodes.length ≤ 1000) :
    Calls Try.prog 19 #[.pointer (some ⟨S, 0, none⟩), sv, nv] w (ChRes w B S km A Mo σ sets nodes) := by
  have HS := Lib.hid h
  have HSV := Lib.hid hs
  have HNV := Lib.hid hn
  obtain ⟨Ps, cs, rfl, _⟩ := hs.form
  obtain ⟨Pn, cn, rfl, _⟩ := hn.form
  clear h hs hn
  go_enter Try.func19, Try.ntmps19
  go_wp2
  go_loopw [21] (fun i wr => ∃ k : Nat, i = .int .i64 k ∧ k ≤ nodes.length ∧ ∃ K, Hid (SpOk wr B S km A Mo (σ.know K)) ∧ Hid (KeptS A km w wr) ∧ Hid (∀ y ∈ nodes.take k, NodeOk σ y)) (fun i _ => nodes.length - (intOf i).toNat)
  case atStart => exact ⟨0, rfl, by omega, σ.K, HS, Lib.hid (KeptS.refl _ _ _), Lib.hid (by simp)⟩
  case round =>
    obtain ⟨k, rfl, hk, K, HSR, HKR, HOK⟩ := hrel
    have c0 := HSR.out.sp.c0
    have c1 := HSR.out.sp.c1
    by_cases hlt : k < nodes.length
    · have hI : (k : Int) < (nodes.length : Int) := by omega
      obtain ⟨x, hx⟩ : ∃ x, nodes[k]? = some x := ⟨_, List.getElem?_eq_getElem hlt⟩
      obtain ⟨P', c', hv', hcell⟩ := (HNV.out.kept HKR.out).form
      injection hv' with hP hlq hcq
      subst hP hcq
      clear hlq
      obtain ⟨g, rfl, hcx, _, _⟩ := hcell k x hx
      have hxr := HNV.out.range x (List.mem_of_getElem? hx)
      obtain ⟨v, hlook, hvs⟩ := HSR.out.look x hxr
      have HX := Lib.hid hx
      have HR := Lib.hid hxr
      clear hx hxr hcell
      by_cases hv1 : v ≥ 1
      · have HN := Lib.hid (show NodeOk σ x from by
          rcases hvs with h | ⟨_, h⟩ | ⟨_, h⟩
          · omega
          · exact h
          · obtain ⟨g, g1, g2, _⟩ := h; exact ⟨g, g1, g2⟩)
        clear hvs
        go_wp2
        exact ⟨⟨k + 1, by go_num, by omega, K, HSR, HKR, Lib.hid (AllNum.snoc HOK.out HX.out HN.out)⟩, by simp only [intOf]; omega⟩
      · clear hvs
        by_cases hno : NodeOk σ x
        · obtain ⟨f, hf, rfl⟩ := hno
          have hSz := Size_any f HSR.out.sp.ar ⟨hf, (HSR.out.ok.g f hf).1⟩
          unfold Blks.val at hSz
          have HSZ := Lib.hid hSz
          have HF := Lib.hid hf
          clear hSz hf
          go_upto_region 10 with ((with_reducible refine HSZ.out.mono ?_); rintro e W2 ⟨rfl, hb2⟩; have HS2 := Lib.hid (HSR.out.below hb2); have HK2 := Lib.hid (HKR.out.trans (HSR.out.kept hb2)); clear hb2)
          have c0 := HS2.out.sp.c0
          have c1 := HS2.out.sp.c1
          have hkx := key_i64 HR.out
          go_wp2_with (refine wpList_mapAt rfl _ _ _ 65 3 rfl i64_keyed Try.underlying65 rfl (show MapAt _ _ W2 _ _ from HS2.out.sp.known) (.int .i64 f) (.int .i64 1) _ rfl rfl hkx ?_; intro w3 hm3 hg3; obtain ⟨p1, p2⟩ := HS2.out.knows hm3 hg3 ⟨f, HF.out, rfl, .inl rfl⟩; have P1 := Lib.hid p1; have P2 := Lib.hid (HK2.out.trans p2); clear p1 p2 hm3 hg3)
          exact ⟨⟨k + 1, by go_num, by omega, _, P1, P2, Lib.hid (AllNum.snoc HOK.out HX.out ⟨f, HF.out, rfl⟩)⟩, by simp only [intOf]; omega⟩
        · have hSz := Size_no x HSR.out.sp.ar HR.out (fun g hg e => hno ⟨g, hg, e⟩)
          unfold Blks.val at hSz
          have HSZ := Lib.hid hSz
          have HNO := Lib.hid hno
          clear hSz hno
          go_wp2_with ((with_reducible refine HSZ.out.mono ?_); rintro e W2 ⟨rfl, hb2⟩; have HS2 := Lib.hid (HSR.out.below hb2); have HK2 := Lib.hid (HKR.out.trans (HSR.out.kept hb2)); clear hb2)
          go_ret
          exact ⟨K, HS2.out, HK2.out, .inr ⟨rfl, fun h => HNO.out (h.1 x (List.mem_of_getElem? HX.out))⟩⟩
    · obtain rfl : k = nodes.length := by omega
      have hI : ¬ (nodes.length : Int) < (nodes.length : Int) := by omega
      have HN := Lib.hid (show ∀ y ∈ nodes, NodeOk σ y by have := HOK.out; rw [List.take_length] at this; exact this)
      clear HOK
      go_wp2
      go_loopw [51] (fun i w2 => ∃ k : Nat, i = .int .i64 k ∧ k ≤ sets.length ∧ ∃ K, Hid (SpOk w2 B S km A Mo (σ.know K)) ∧ Hid (KeptS A km w w2) ∧ Hid (∀ y ∈ sets.take k, SetOk σ y)) (fun i _ => sets.length - (intOf i).toNat)
      case atStart => exact ⟨0, rfl, by omega, K, HSR, HKR, Lib.hid (by simp)⟩
      case round =>
        obtain ⟨k, rfl, hk, K, HSR, HKR, HOK⟩ := hrel
        have c0 := HSR.out.sp.c0
        have c1 := HSR.out.sp.c1
        by_cases hlt : k < sets.length
        · have hI : (k : Int) < (sets.length : Int) := by omega
          obtain ⟨x, hx⟩ : ∃ x, sets[k]? = some x := ⟨_, List.getElem?_eq_getElem hlt⟩
          obtain ⟨P', c', hv', hcell⟩ := (HSV.out.kept HKR.out).form
          injection hv' with hP hlq hcq
          subst hP hcq
          clear hlq
          obtain ⟨g, rfl, hcx, _, _⟩ := hcell k x hx
          have hxr := HSV.out.range x (List.mem_of_getElem? hx)
          obtain ⟨v, hlook, hvs⟩ := HSR.out.look x hxr
          have HX := Lib.hid hx
          have HR := Lib.hid hxr
          clear hx hxr hcell
          by_cases hv2 : v = 2
          · subst hv2
            have HS2 := Lib.hid (show SetOk σ x from by
              rcases hvs with h | ⟨h, _⟩ | ⟨_, h⟩
              · omega
              · omega
              · exact h)
            clear hvs
            go_wp2
            exact ⟨⟨k + 1, by go_num, by omega, K, HSR, HKR, Lib.hid (AllNum.snoc HOK.out HX.out HS2.out)⟩, by simp only [intOf]; omega⟩
          · clear hvs
            by_cases hno : NodeOk σ x
            · obtain ⟨f, hf, rfl⟩ := hno
              have hfl := (HSR.out.ok.g f hf).1
              have hSz := Support_any f HSR.out.sp.ar ⟨hf, hfl⟩
              unfold Blks.val at hSz
              have HSZ := Lib.hid hSz
              have HF := Lib.hid hf
              have HISET := Lib.hid (isSet_iff HSR.out.ok.wf hfl)
              clear hSz hf hfl
              go_upto_region 19 with ((with_reducible refine HSZ.out.mono ?_); rintro e W2 ⟨v2, L, rfl, ho2, hm2, hl2, hb2⟩; have HS2 := Lib.hid (HSR.out.below hb2); have HK2 := Lib.hid (HKR.out.trans (HSR.out.kept hb2)); have HO2 := Lib.hid (And.intro ho2 hm2); obtain ⟨A2, c2, hv2e, _⟩ := owns_form ho2; subst hv2e; clear hb2 ho2 hm2)
              have c0 := HS2.out.sp.c0
              have c1 := HS2.out.sp.c1
              go_wp2
              go_loop [75] (fun i => ∃ j : Nat, i = .int .i64 j ∧ j ≤ L.length ∧ Hid (∀ y ∈ L.take j, y % 2 = 0)) (fun i => L.length - (intOf i).toNat)
              case atStart => exact ⟨0, rfl, by omega, Lib.hid (by simp)⟩
              case round =>
                obtain ⟨j, rfl, hj, HEV⟩ := hrel
                by_cases hjl : j < L.length
                · have hI2 : (j : Int) < (L.length : Int) := by omega
                  obtain ⟨y, hy⟩ : ∃ y, L[j]? = some y := ⟨_, List.getElem?_eq_getElem hjl⟩
                  obtain ⟨i0, i2, ir, rfl⟩ := (HO2.out.2 y).1 (List.mem_of_getElem? hy)
                  obtain ⟨A3, c3, hv3, hA3⟩ := owns_form HO2.out.1
                  injection hv3 with hP3 hlq hcq
                  subst hP3 hcq
                  clear hlq
                  obtain ⟨g2, rfl⟩ := hA3 (by omega)
                  have hcy : W2.cell? ⟨g2, j, none⟩ = some (.int .i64 (((nd (σ.know K).N i0).v : Nat) : Int)) := (HO2.out.1.cellAt j (by omega)).trans (icell hy)
                  have HY := Lib.hid hy
                  have HI := Lib.hid (And.intro i2 ir)
                  clear hy i2 ir hA3
                  generalize hnv : (nd (σ.know K).N i0).v = n at *
                  by_cases ho : n % 2 = 1
                  · have ht : (n : Int).tmod 2 = 1 := by rw [Int.tmod_eq_emod_of_nonneg (by omega)]; omega
                    have HO := Lib.hid (And.intro ho hnv)
                    clear ho hnv
                    go_wp2
                    go_ret
                    refine ⟨K, HS2.out, HK2.out, .inr ⟨rfl, fun h => ?_⟩⟩
                    obtain ⟨g', g1, g3, g4⟩ := h.2 _ (List.mem_of_getElem? HX.out)
                    have : g' = f := by omega
                    subst this
                    have := HISET.out.1 g4 i0 HI.out.1 HI.out.2
                    have := HO.out
                    omega
                  · have ht : (n : Int).tmod 2 = 0 := by rw [Int.tmod_eq_emod_of_nonneg (by omega)]; omega
                    have HE := Lib.hid (show (n : Int) % 2 = 0 by omega)
                    clear ho hnv
                    go_wp2
                    exact ⟨⟨j + 1, by go_num, by omega, Lib.hid (AllNum.snoc (P := fun y => y % 2 = 0) HEV.out HY.out HE.out)⟩, by simp only [intOf]; omega⟩
                · obtain rfl : j = L.length := by omega
                  have hI2 : ¬ (L.length : Int) < (L.length : Int) := by omega
                  have hkx := key_i64 HR.out
                  have HST := Lib.hid (show IsSet σ.N f from HISET.out.2 fun i i2 ir => by
                    have h1 := (HO2.out.2 ((nd (σ.know K).N i).v : Int)).2 ⟨i, i2, ir, rfl⟩
                    have h2 := HEV.out
                    rw [List.take_length] at h2
                    have := h2 _ h1
                    omega)
                  clear HEV
                  go_wp2_with (refine wpList_mapAt rfl _ _ _ 65 3 rfl i64_keyed Try.underlying65 rfl (show MapAt _ _ W2 _ _ from HS2.out.sp.known) (.int .i64 f) (.int .i64 2) _ rfl rfl hkx ?_; intro w3 hm3 hg3; obtain ⟨p1, p2⟩ := HS2.out.knows hm3 hg3 ⟨f, HF.out, rfl, .inr ⟨rfl, HST.out⟩⟩; have P1 := Lib.hid p1; have P2 := Lib.hid (HK2.out.trans p2); clear p1 p2 hm3 hg3)
                  exact ⟨⟨k + 1, by go_num, by omega, _, P1, P2, Lib.hid (AllNum.snoc HOK.out HX.out ⟨f, HF.out, rfl, HST.out⟩)⟩, by simp only [intOf]; omega⟩
            · have hSz := Support_no x HSR.out.sp.ar HR.out (fun g hg e => hno ⟨g, hg, e⟩)
              unfold Blks.val at hSz
              have HSZ := Lib.hid hSz
              have HNO := Lib.hid hno
              clear hSz hno
              go_wp2_with ((with_reducible refine HSZ.out.mono ?_); rintro e W2 ⟨rfl, hb2⟩; have HS2 := Lib.hid (HSR.out.below hb2); have HK2 := Lib.hid (HKR.out.trans (HSR.out.kept hb2)); clear hb2)
              go_ret
              exact ⟨K, HS2.out, HK2.out, .inr ⟨rfl, fun h => HNO.out (by obtain ⟨g, g1, g2, _⟩ := h.2 x (List.mem_of_getElem? HX.out); exact ⟨g, g1, g2⟩)⟩⟩
        · obtain rfl : k = sets.length := by omega
          have hI : ¬ (sets.length : Int) < (sets.length : Int) := by omega
          have HN2 := Lib.hid (show ∀ y ∈ sets, SetOk σ y by have := HOK.out; rw [List.take_length] at this; exact this)
          clear HOK
          go_wp2
          go_ret
          exact ⟨K, HSR.out, HKR.out, .inl ⟨rfl, HN.out, HN2.out⟩⟩
end Go.Proofs.Ytcchiagclhkieaa

/-
  What a space asks its arena of two sets.
-/
namespace Go.Proofs.Ytcchiagclhkieaa
open Go Go.RowKit Go.ChangeMaps Go.MapKept Go.Maps Go.Lib Go.Sort

/-- A function of headers: it hangs on no variable of the bits behind. -/
def SetF (F : Fun) : Prop := ∀ v, v % 2 = 1 → Free F v
theorem Den.setOk {σ : Sg} {g : Nat} {F : Fun} (h : Den σ g F) (s : SetF F) : SetOk σ (g : Int) := ⟨g, h.1, rfl, by
  unfold IsSet
  rw [show (fun s => ev σ.N s g) = F from funext h.2]
  exact s⟩
theorem Den.nodeOk {σ : Sg} {g : Nat} {F : Fun} (h : Den σ g F) : NodeOk σ (g : Int) := ⟨g, h.1, rfl⟩
theorem SetOk.den {σ : Sg} {x : Int} (h : SetOk σ x) : ∃ (g : Nat) (F : Fun), x = g ∧ Den σ g F ∧ SetF F := by
  obtain ⟨g, h1, h2, h3⟩ := h
  exact ⟨g, fun s => ev σ.N s g, h2, ⟨h1, fun _ => rfl⟩, h3⟩
theorem NodeOk.den {σ : Sg} {x : Int} (h : NodeOk σ x) : ∃ (g : Nat) (F : Fun), x = g ∧ Den σ g F := by
  obtain ⟨g, h1, h2⟩ := h
  exact ⟨g, fun s => ev σ.N s g, h2, h1, fun _ => rfl⟩
theorem Den.known {σ : Sg} {g : Nat} {F : Fun} (h : Den σ g F) (K : List (Value × Value)) : Den (σ.know K) g F := h
theorem Den.lt64 {Mo : Nat} {σ : Sg} {g : Nat} {F : Fun} (h : Den σ g F) (o : SgOk Mo σ) : g < 2147483647 ∧ (g : Int) ≤ 2147483646 := by
  have := (o.g g h.1).1
  have := o.le
  omega
theorem To.know (σ : Sg) (K : List (Value × Value)) : To 0 0 σ (σ.know K) := ⟨Ext.refl _, Nat.le_refl _, Nat.le_refl _, fun _ h => h, fun _ h => h⟩
theorem ChRes.form {w w' : World} {B S km : Nat} {A : Blks} {Mo : Nat} {σ : Sg} {sets nodes : List Int} {e : Ending} (h : ChRes w B S km A Mo σ sets nodes e w') : ∃ c : Int, e = .returned (.int .i64 c) := by
  obtain ⟨_, _, _, ⟨rfl, _⟩ | ⟨rfl, _⟩⟩ := h
  · exact ⟨_, rfl⟩
  · exact ⟨_, rfl⟩
theorem ChRes.yes {w w' : World} {B S km : Nat} {A : Blks} {Mo : Nat} {σ : Sg} {sets nodes : List Int} {e : Ending} (h : ChRes w B S km A Mo σ sets nodes e w') (ok : AllNum σ sets nodes) : e = .returned (.int .i64 0) ∧ ∃ K, SpOk w' B S km A Mo (σ.know K) ∧ KeptS A km w w' := by
  obtain ⟨K, h1, h2, ⟨h3, _⟩ | ⟨_, h3⟩⟩ := h
  · exact ⟨h3, K, h1, h2⟩
  · exact absurd ok h3
theorem ChRes.no {w w' : World} {B S km : Nat} {A : Blks} {Mo : Nat} {σ : Sg} {sets nodes : List Int} {e : Ending} (h : ChRes w B S km A Mo σ sets nodes e w') (ok : ¬ AllNum σ sets nodes) : e = .returned (.int .i64 1) ∧ ∃ K, SpOk w' B S km A Mo (σ.know K) ∧ KeptS A km w w' := by
  obtain ⟨K, h1, h2, ⟨_, h3⟩ | ⟨h3, _⟩⟩ := h
  · exact absurd h3 ok
  · exact ⟨h3, K, h1, h2⟩
/-- Numbers laid in a fresh block. -/
theorem RowI.fresh {w : World} {B S km : Nat} {A : Blks} {Mo : Nat} {σ : Sg} (h : SpOk w B S km A Mo σ) (l : List Int) (hl : ∀ x ∈ l, -9223372036854775808 ≤ x ∧ x ≤ 9223372036854775807) (c : Nat) :
    RowI A km (w.alloc (.cells (l.map (Value.int .i64)).toArray 3)) (.slice (some ⟨w.heap.size, 0, none⟩) l.length c) l := by
  refine ⟨⟨_, c, rfl, fun i x hx => ⟨w.heap.size, rfl, ?_, h.sp.ar.foreign_new (below1 w _) (Nat.le_refl _) (by simp), ?_⟩⟩, hl⟩
  · have hb := blk1 w (.cells (l.map (Value.int .i64)).toArray 3)
    rw [cell_of_row _ _ i _ _ (0, 0) hb]
    simp [hx]
  · have := h.sp.fk.1
    omega
/-- checked, of numbers in a fresh block. -/
theorem SpOk.check {w : World} {B S km : Nat} {A : Blks} {Mo : Nat} {σ : Sg} (h : SpOk w B S km A Mo σ) (l : List Int) (hl : ∀ x ∈ l, -9223372036854775808 ≤ x ∧ x ≤ 9223372036854775807) (hn : l.length ≤ 1000) :
    Calls Try.prog 19 #[.pointer (some ⟨S, 0, none⟩), .slice (some ⟨w.heap.size, 0, none⟩) l.length l.length, .slice none 0 0] (w.alloc (.cells (l.map (Value.int .i64)).toArray 3)) (fun e w' => ChRes w B S km A Mo σ l [] e w') := by
  have hb := below1 w (.cells (l.map (Value.int .i64)).toArray 3)
  refine (checked_any (h.below hb) _ _ l [] (RowI.fresh h l hl _) (RowI.nil _ _ _) hn (by simp)).mono ?_
  rintro e w' ⟨K, h1, h2, h3⟩
  exact ⟨K, h1, (h.kept hb).trans h2, h3⟩
section
variable {w : World} {B S km : Nat} {A : Blks} {Mo : Nat} {σ : Sg}
set_option maxRecDepth 100000
set_option maxHeartbeats 1000000
theorem two_yes (h : SpOk w B S km A Mo σ) {fid : FuncId} {ts cs : Array Value} {Post : World → Ending → World → Prop} (hf : ∀ (r : Ending) (W W' : World), Post W r W' → ∃ q c : Int, r = .returned (.tuple #[.int .i64 q, .int .i64 c]))
    (en : ∀ (args : Array Value) (w : World), (callFunc fid args).run Try.prog w = .ok (.enter fid args) w) (x y : Int) (hx : -9223372036854775808 ≤ x ∧ x ≤ 9223372036854775807) (hy : -9223372036854775808 ≤ y ∧ y ≤ 9223372036854775807) (ok : AllNum σ [x, y] [])
    (hcall : ∀ (K : List (Value × Value)) (W : World), SpOk W B S km A Mo (σ.know K) → KeptS A km w W → Calls Try.prog fid (ts ++ (#[.int .i64 x, .int .i64 y] ++ cs)) W (Post W)) :
    Calls Try.prog 58 #[.pointer (some ⟨S, 0, none⟩), .int .i64 x, .int .i64 y, .func (.func fid) ts cs] w fun e w' => ∃ (K : List (Value × Value)) (W : World), SpOk W B S km A Mo (σ.know K) ∧ KeptS A km w W ∧ Post W e w' := by
  have hck := h.check [x, y] (by simp; exact ⟨hx, hy⟩) (by simp)
  have hck : Calls Try.prog 19 #[.pointer (some ⟨S, 0, none⟩), .slice (some ⟨w.heap.size, 0, none⟩) 2 2, .slice none 0 0] (w.alloc (.cells #[.int .i64 x, .int .i64 y] 3)) (fun e w' => ChRes w B S km A Mo σ [x, y] [] e w') := hck
  have HCK := Lib.hid hck
  have HCALL := Lib.hid hcall
  have HF := Lib.hid hf
  clear hck hcall hf h hx hy
  go_enter Try.func58, Try.ntmps58
  go_wp2_with ((with_reducible refine HCK.out.mono ?_); rintro e W2 hr; obtain ⟨he, K, hs2, hk2⟩ := hr.yes ok; subst he; have HS2 := Lib.hid hs2; have HK2 := Lib.hid hk2; clear hr hs2 hk2)
  refine (HCALL.out K W2 HS2.out HK2.out).mono ?_
  rintro e W3 hp
  have HP := Lib.hid hp
  obtain ⟨q, c, rfl⟩ := HF.out _ _ _ hp
  clear hp
  go_wp2
  go_ret2
  exact ⟨K, W2, HS2.out, HK2.out, HP.out⟩
theorem two_no (h : SpOk w B S km A Mo σ) {fv : Value} (x y : Int) (hx : -9223372036854775808 ≤ x ∧ x ≤ 9223372036854775807) (hy : -9223372036854775808 ≤ y ∧ y ≤ 9223372036854775807) (ok : ¬ AllNum σ [x, y] []) :
    Calls Try.prog 58 #[.pointer (some ⟨S, 0, none⟩), .int .i64 x, .int .i64 y, fv] w fun e w' => e = .returned (.tuple #[.int .i64 0, .int .i64 1]) ∧ ∃ K, SpOk w' B S km A Mo (σ.know K) ∧ KeptS A km w w' := by
  have hck := h.check [x, y] (by simp; exact ⟨hx, hy⟩) (by simp)
  have hck : Calls Try.prog 19 #[.pointer (some ⟨S, 0, none⟩), .slice (some ⟨w.heap.size, 0, none⟩) 2 2, .slice none 0 0] (w.alloc (.cells #[.int .i64 x, .int .i64 y] 3)) (fun e w' => ChRes w B S km A Mo σ [x, y] [] e w') := hck
  have HCK := Lib.hid hck
  clear hck h hx hy
  go_enter Try.func58, Try.ntmps58
  go_wp2_with ((with_reducible refine HCK.out.mono ?_); rintro e W2 hr; obtain ⟨he, hs2⟩ := hr.no ok; subst he; have HS2 := Lib.hid hs2; clear hr hs2)
  go_ret2
  exact ⟨rfl, HS2.out⟩
/-- What a call on a space comes to that refuses its numbers. -/
def SpNo (w : World) (B S km : Nat) (A : Blks) (Mo : Nat) (σ : Sg) (e : Ending) (w' : World) : Prop := e = .returned (.tuple #[.int .i64 0, .int .i64 1]) ∧ ∃ K, SpOk w' B S km A Mo (σ.know K) ∧ KeptS A km w w'
theorem SpRes.known {w W w' : World} {F : Fun} {k m : Nat} {e : Ending} {K : List (Value × Value)} (h : SpRes W B S km A Mo (σ.know K) F k m e w') (hk : KeptS A km w W) : SpRes w B S km A Mo σ F k m e w' := by
  have := h.after (To.know σ K) hk
  simpa using this
theorem allOk2 {f g : Nat} {F G : Fun} (hf : Den σ f F) (hg : Den σ g G) (sf : SetF F) (sg : SetF G) : AllNum σ [(f : Int), (g : Int)] [] := ⟨by simp, by
  intro x hx
  simp at hx
  rcases hx with rfl | rfl
  · exact hf.setOk sf
  · exact hg.setOk sg⟩
theorem relAnd_yes (h : SpOk w B S km A Mo σ) {f g : Nat} {F G : Fun} (hf : Den σ f F) (hg : Den σ g G) (sf : SetF F) (sg : SetF G) {a b : Nat} (hgr : Grow σ.N σ.H (fun s => F s && G s) a b) (hl : σ.N.length + a ≤ 2147483647) :
    Calls Try.prog 32 #[.pointer (some ⟨S, 0, none⟩), .int .i64 f, .int .i64 g] w (SpRes w B S km A Mo σ (fun s => F s && G s) a b) := by
  have hfl := hf.lt64 h.ok
  have hgl := hg.lt64 h.ok
  have c0 := h.sp.c0
  have htwo := Lib.hid (two_yes (fid := 18) (ts := #[.pointer (some ⟨A.a, 0, none⟩)]) (cs := #[]) (Post := fun W e w' => ∃ K, SpRes W B S km A Mo (σ.know K) (fun s => F s && G s) a b e w') h (fun r W W' ⟨K, hr⟩ => hr.form) (fun _ _ => by go_simp) f g (by omega) (by omega) (allOk2 hf hg sf sg)
    (fun K W hs _ => (hs.and (hf.known K) (hg.known K) hgr hl).mono fun e w' hr => ⟨K, hr⟩))
  clear h hf hg sf sg hgr hl
  go_enter Try.func32, Try.ntmps32
  go_wp2_with ((with_reducible refine htwo.out.mono ?_); rintro e W2 ⟨K, W, hs, hk, K2, hr⟩; have HR := Lib.hid (hr.known hk); obtain ⟨q, c, rfl⟩ := hr.form; clear hs hk hr)
  go_ret2
  exact HR.out
end
end Go.Proofs.Ytcchiagclhkieaa

/-
  What a space makes of sets and relations (written by wip/gen/genrf1.py).
-/
namespace Go.Proofs.Ytcchiagclhkieaa
open Go Go.RowKit Go.ChangeMaps Go.MapKept Go.Maps Go.Lib Go.Sort

section
variable {w : World} {B S km : Nat} {A : Blks} {Mo : Nat} {σ : Sg}
set_option maxRecDepth 100000
set_option maxHeartbeats 1000000
def I64 (x : Int) : Prop := -9223372036854775808 ≤ x ∧ x ≤ 9223372036854775807
theorem SpOk.check1 (h : SpOk w B S km A Mo σ) (x : Int) (hx : I64 x) :
    Calls Try.prog 19 #[.pointer (some ⟨S, 0, none⟩), .slice (some ⟨w.heap.size, 0, none⟩) 1 1, .slice none 0 0] (w.alloc (.cells #[.int .i64 x] 3)) (fun e w' => ChRes w B S km A Mo σ [x] [] e w') := h.check [x] (by simp; exact hx) (by simp)
/-- checked, of relations. -/
theorem SpOk.checkN (h : SpOk w B S km A Mo σ) (l : List Int) (hl : ∀ x ∈ l, I64 x) (hn : l.length ≤ 1000) :
    Calls Try.prog 19 #[.pointer (some ⟨S, 0, none⟩), .slice none 0 0, .slice (some ⟨w.heap.size, 0, none⟩) l.length l.length] (w.alloc (.cells (l.map (Value.int .i64)).toArray 3)) (fun e w' => ChRes w B S km A Mo σ [] l e w') := by
  have hb := below1 w (.cells (l.map (Value.int .i64)).toArray 3)
  refine (checked_any (h.below hb) _ _ [] l (RowI.nil _ _ _) (RowI.fresh h l hl _) (by simp) hn).mono ?_
  rintro e w' ⟨K, h1, h2, h3⟩
  exact ⟨K, h1, (h.kept hb).trans h2, h3⟩
theorem SpOk.checkN1 (h : SpOk w B S km A Mo σ) (x : Int) (hx : I64 x) :
    Calls Try.prog 19 #[.pointer (some ⟨S, 0, none⟩), .slice none 0 0, .slice (some ⟨w.heap.size, 0, none⟩) 1 1] (w.alloc (.cells #[.int .i64 x] 3)) (fun e w' => ChRes w B S km A Mo σ [] [x] e w') := h.checkN [x] (by simp; exact hx) (by simp)
theorem SpOk.checkN2 (h : SpOk w B S km A Mo σ) (x y : Int) (hx : I64 x) (hy : I64 y) :
    Calls Try.prog 19 #[.pointer (some ⟨S, 0, none⟩), .slice none 0 0, .slice (some ⟨w.heap.size, 0, none⟩) 2 2] (w.alloc (.cells #[.int .i64 x, .int .i64 y] 3)) (fun e w' => ChRes w B S km A Mo σ [] [x, y] e w') := h.checkN [x, y] (by simp; exact ⟨hx, hy⟩) (by simp)
/-- checked, of a set and a relation. -/
theorem SpOk.checkB (h : SpOk w B S km A Mo σ) (x y : Int) (hx : I64 x) (hy : I64 y) :
    Calls Try.prog 19 #[.pointer (some ⟨S, 0, none⟩), .slice (some ⟨w.heap.size, 0, none⟩) 1 1, .slice (some ⟨w.heap.size + 1, 0, none⟩) 1 1] ((w.alloc (.cells #[.int .i64 x] 3)).alloc (.cells #[.int .i64 y] 3)) (fun e w' => ChRes w B S km A Mo σ [x] [y] e w') := by
  have hb := below1 w (.cells #[.int .i64 x] 3)
  have h1 := h.below hb
  have hb2 := below1 (w.alloc (.cells #[.int .i64 x] 3)) (.cells #[.int .i64 y] 3)
  have hs : (w.alloc (.cells #[.int .i64 x] 3)).heap.size = w.heap.size + 1 := by simp
  have r1 : RowI A km (w.alloc (.cells #[.int .i64 x] 3)) (.slice (some ⟨w.heap.size, 0, none⟩) 1 1) [x] := RowI.fresh h [x] (by simp; exact hx) 1
  have r2 : RowI A km ((w.alloc (.cells #[.int .i64 x] 3)).alloc (.cells #[.int .i64 y] 3)) (.slice (some ⟨(w.alloc (.cells #[.int .i64 x] 3)).heap.size, 0, none⟩) 1 1) [y] := RowI.fresh h1 [y] (by simp; exact hy) 1
  rw [hs] at r2
  refine (checked_any (h1.below hb2) _ _ [x] [y] (r1.kept (h1.kept hb2)) r2 (by simp) (by simp)).mono ?_
  rintro e w' ⟨K, h3, h4, h5⟩
  exact ⟨K, h3, (h.kept hb).trans ((h1.kept hb2).trans h4), h5⟩
theorem allOk1 {f : Nat} {F : Fun} (hf : Den σ f F) (sf : SetF F) : AllNum σ [(f : Int)] [] := ⟨by simp, by
  intro x hx
  simp at hx
  subst hx
  exact hf.setOk sf⟩
theorem allOkB {r a : Nat} {R F : Fun} (hr : Den σ r R) (ha : Den σ a F) (sa : SetF F) : AllNum σ [(a : Int)] [(r : Int)] := ⟨by
  intro x hx
  simp at hx
  subst hx
  exact hr.nodeOk, by
  intro x hx
  simp at hx
  subst hx
  exact ha.setOk sa⟩
theorem allOkN1 {r : Nat} {R : Fun} (hr : Den σ r R) : AllNum σ [] [(r : Int)] := ⟨by
  intro x hx
  simp at hx
  subst hx
  exact hr.nodeOk, by simp⟩
theorem allOkN2 {r q : Nat} {R Q : Fun} (hr : Den σ r R) (hq : Den σ q Q) : AllNum σ [] [(r : Int), (q : Int)] := ⟨by
  intro x hx
  simp at hx
  rcases hx with rfl | rfl
  · exact hr.nodeOk
  · exact hq.nodeOk, by simp⟩
theorem relAnd_no (h : SpOk w B S km A Mo σ) (x y : Int) (hx : I64 x) (hy : I64 y) (ok : ¬ AllNum σ [x, y] []) :
    Calls Try.prog 32 #[.pointer (some ⟨S, 0, none⟩), .int .i64 x, .int .i64 y] w (SpNo w B S km A Mo σ) := by
  have c0 := h.sp.c0
  have HCK := Lib.hid (fun fv => two_no (fv := fv) h x y hx hy ok)
  clear h
  go_enter Try.func32, Try.ntmps32
  go_wp2_with ((with_reducible refine (HCK.out _).mono ?_); rintro e W2 ⟨rfl, hs2⟩; have HS2 := Lib.hid hs2; clear hs2)
  go_ret2
  exact ⟨rfl, HS2.out⟩
theorem relOr_no (h : SpOk w B S km A Mo σ) (x y : Int) (hx : I64 x) (hy : I64 y) (ok : ¬ AllNum σ [x, y] []) :
    Calls Try.prog 28 #[.pointer (some ⟨S, 0, none⟩), .int .i64 x, .int .i64 y] w (SpNo w B S km A Mo σ) := by
  have c0 := h.sp.c0
  have HCK := Lib.hid (fun fv => two_no (fv := fv) h x y hx hy ok)
  clear h
  go_enter Try.func28, Try.ntmps28
  go_wp2_with ((with_reducible refine (HCK.out _).mono ?_); rintro e W2 ⟨rfl, hs2⟩; have HS2 := Lib.hid hs2; clear hs2)
  go_ret2
  exact ⟨rfl, HS2.out⟩
theorem relLess_no (h : SpOk w B S km A Mo σ) (x y : Int) (hx : I64 x) (hy : I64 y) (ok : ¬ AllNum σ [x, y] []) :
    Calls Try.prog 33 #[.pointer (some ⟨S, 0, none⟩), .int .i64 x, .int .i64 y] w (SpNo w B S km A Mo σ) := by
  have hb := below1 w (.cells #[.pointer (some ⟨S, 0, none⟩)] 22)
  have kb := cell0 (blk1 w (.cells #[.pointer (some ⟨S, 0, none⟩)] 22))
  have HK := Lib.hid (h.kept hb)
  have HCK := Lib.hid (fun fv => two_no (fv := fv) (h.below hb) x y hx hy ok)
  clear h hb
  go_enter Try.func33, Try.ntmps33
  go_wp2_with ((with_reducible refine (HCK.out _).mono ?_); rintro e W2 ⟨rfl, K, hs2, hk2⟩; have HS2 := Lib.hid hs2; have HK2 := Lib.hid hk2; clear hs2 hk2)
  go_ret2
  exact ⟨rfl, K, HS2.out, HK.out.trans HK2.out⟩
theorem relOr_yes (h : SpOk w B S km A Mo σ) {f g : Nat} {F G : Fun} (hf : Den σ f F) (hg : Den σ g G) (sf : SetF F) (sg : SetF G) {a b : Nat} (hgr : Grow σ.N σ.H (fun s => F s || G s) a b) (hl : σ.N.length + a ≤ 2147483647) :
    Calls Try.prog 28 #[.pointer (some ⟨S, 0, none⟩), .int .i64 f, .int .i64 g] w (SpRes w B S km A Mo σ (fun s => F s || G s) a b) := by
  have hfl := hf.lt64 h.ok
  have hgl := hg.lt64 h.ok
  have c0 := h.sp.c0
  have htwo := Lib.hid (two_yes (fid := 59) (ts := #[.pointer (some ⟨A.a, 0, none⟩)]) (cs := #[]) (Post := fun W e w' => ∃ K, SpRes W B S km A Mo (σ.know K) (fun s => F s || G s) a b e w') h (fun r W W' ⟨K, hr⟩ => hr.form) (fun _ _ => by go_simp) f g (by omega) (by omega) (allOk2 hf hg sf sg)
    (fun K W hs _ => (hs.or (hf.known K) (hg.known K) hgr hl).mono fun e w' hr => ⟨K, hr⟩))
  clear h hf hg sf sg hgr hl
  go_enter Try.func28, Try.ntmps28
  go_wp2_with ((with_reducible refine htwo.out.mono ?_); rintro e W2 ⟨K, W, hs, hk, K2, hr⟩; have HR := Lib.hid (hr.known hk); obtain ⟨q, c, rfl⟩ := hr.form; clear hs hk hr)
  go_ret2
  exact HR.out
theorem less1 (h : SpOk w B S km A Mo σ) {f g : Nat} {F G : Fun} (hf : Den σ f F) (hg : Den σ g G) {bx : Nat} (hb : w.cell? ⟨bx, 0, none⟩ = some (.pointer (some ⟨S, 0, none⟩))) {a b : Nat} (hgr : Grow σ.N σ.H (fun s => F s && !G s) a b) (hl : σ.N.length + a ≤ 2147483647) :
    Calls Try.prog 67 #[.int .i64 f, .int .i64 g, .pointer (some ⟨bx, 0, none⟩)] w (SpRes w B S km A Mo σ (fun s => F s && !G s) a b) := by
  have c0 := h.sp.c0
  have e : (fun s => F s && !G s) = fun s => if G s then false else F s := funext fun s => by cases F s <;> cases G s <;> rfl
  rw [e] at hgr ⊢
  have hite := Lib.hid (show Calls Try.prog 40 #[.pointer (some ⟨A.a, 0, none⟩), .int .i64 g, .int .i64 0, .int .i64 f] w (SpRes w B S km A Mo σ (fun s => if G s then false else F s) a b) from h.ite hg (Den.zero h.ok) hf hgr hl)
  clear h hf hg hgr hl e
  go_enter Try.func67, Try.ntmps67
  go_wp2_with ((with_reducible refine hite.out.mono ?_); rintro e W2 hr; have HR := Lib.hid hr; obtain ⟨q, c, rfl⟩ := hr.form; clear hr)
  go_ret2
  exact HR.out
theorem relLess_yes (h : SpOk w B S km A Mo σ) {f g : Nat} {F G : Fun} (hf : Den σ f F) (hg : Den σ g G) (sf : SetF F) (sg : SetF G) {a b : Nat} (hgr : Grow σ.N σ.H (fun s => F s && !G s) a b) (hl : σ.N.length + a ≤ 2147483647) :
    Calls Try.prog 33 #[.pointer (some ⟨S, 0, none⟩), .int .i64 f, .int .i64 g] w (SpRes w B S km A Mo σ (fun s => F s && !G s) a b) := by
  have hfl := hf.lt64 h.ok
  have hgl := hg.lt64 h.ok
  have hb := below1 w (.cells #[.pointer (some ⟨S, 0, none⟩)] 22)
  have kb := blk1 w (.cells #[.pointer (some ⟨S, 0, none⟩)] 22)
  have cb := cell0 kb
  have hkb := h.kept hb
  have hfo := h.sp.ar.foreign_new hb (Nat.le_refl _) (lt_of_block kb)
  have hfk := h.sp.fk.1
  have htwo := Lib.hid (two_yes (fid := 67) (ts := #[]) (cs := #[.pointer (some ⟨w.heap.size, 0, none⟩)]) (Post := fun W e w' => ∃ K, SpRes W B S km A Mo (σ.know K) (fun s => F s && !G s) a b e w') (h.below hb) (fun r W W' ⟨K, hr⟩ => hr.form) (fun _ _ => by go_simp) f g (by omega) (by omega) (allOk2 hf hg sf sg)
    (fun K W hs hk => (less1 hs (hf.known K) (hg.known K) (cell0 ((hk.same _ hfo (by omega)).1.trans kb)) hgr hl).mono fun e w' hr => ⟨K, hr⟩))
  have HK := Lib.hid hkb
  clear h hf hg sf sg hgr hl hb kb hkb hfo hfk
  go_enter Try.func33, Try.ntmps33
  go_wp2_with ((with_reducible refine htwo.out.mono ?_); rintro e W2 ⟨K, W, hs, hk, K2, hr⟩; have HR := Lib.hid (hr.known (HK.out.trans hk)); obtain ⟨q, c, rfl⟩ := hr.form; clear hs hk hr)
  go_ret2
  exact HR.out
theorem relNot_yes (h : SpOk w B S km A Mo σ) {f : Nat} {F : Fun} (hf : Den σ f F) (sf : SetF F) {a b : Nat} (hgr : Grow σ.N σ.H (fun s => !F s) a b) (hl : σ.N.length + a ≤ 2147483647) :
    Calls Try.prog 8 #[.pointer (some ⟨S, 0, none⟩), .int .i64 f] w (SpRes w B S km A Mo σ (fun s => !F s) a b) := by
  have hfl := hf.lt64 h.ok
  have HCK := Lib.hid (h.check1 f (by unfold I64; omega))
  have HOP := Lib.hid (fun (K : List (Value × Value)) (W : World) (hs : SpOk W B S km A Mo (σ.know K)) => hs.not (hf.known K) hgr hl)
  have OK := Lib.hid (allOk1 hf sf)
  clear h hf sf hgr hl
  go_enter Try.func8, Try.ntmps8
  go_upto_region 2 with ((with_reducible refine HCK.out.mono ?_); rintro e W2 hr; obtain ⟨he, K, hs2, hk2⟩ := hr.yes OK.out; subst he; have HS2 := Lib.hid hs2; have HK2 := Lib.hid hk2; clear hr hs2 hk2)
  have c0 := HS2.out.sp.c0
  have HO := Lib.hid (HOP.out K W2 HS2.out)
  clear HOP
  go_wp2_with ((with_reducible refine HO.out.mono ?_); rintro e W3 hr; have HR := Lib.hid (hr.known HK2.out); obtain ⟨q, c, rfl⟩ := hr.form; clear hr)
  go_ret2
  exact HR.out
theorem relNot_no (h : SpOk w B S km A Mo σ) (x : Int) (hx : I64 x) (ok : ¬ AllNum σ [x] []) :
    Calls Try.prog 8 #[.pointer (some ⟨S, 0, none⟩), .int .i64 x] w (SpNo w B S km A Mo σ) := by
  have HCK := Lib.hid (h.check1 x hx)
  clear h
  go_enter Try.func8, Try.ntmps8
  go_wp2_with ((with_reducible refine HCK.out.mono ?_); rintro e W2 hr; obtain ⟨he, hs2⟩ := hr.no ok; subst he; have HS2 := Lib.hid hs2; clear hr hs2)
  go_ret2
  exact ⟨rfl, HS2.out⟩
end
end Go.Proofs.Ytcchiagclhkieaa

/-
  All variables of the bits, in a list.
-/
namespace Go.Proofs.Ytcchiagclhkieaa
open Go Go.RowKit Go.ChangeMaps Go.MapKept Go.Maps Go.Lib Go.Sort

/-- The variables of the bits from 0 to n - 1. -/
def varsL (o n : Nat) : List Int := (List.range n).map fun i => ((2 * i + o : Nat) : Int)
theorem varsL_len (o n : Nat) : (varsL o n).length = n := by simp [varsL]
theorem varsL_snoc (o n : Nat) : varsL o (n + 1) = varsL o n ++ [((2 * n + o : Nat) : Int)] := by simp [varsL, List.range_succ]
theorem varsL_get (o n : Nat) {i : Nat} (h : i < n) : (varsL o n)[i]? = some ((2 * i + o : Nat) : Int) := by simp [varsL, h]
set_option maxRecDepth 100000 in
set_option maxHeartbeats 2000000 in
theorem all_any (w : World) {vf : FuncId} {o : Nat} (V : VarF vf o) :
    Calls Try.prog 21 #[.func (.func vf) #[] #[]] w fun e w' => ∃ v, e = .returned v ∧ w'.ownsRow w.heap.size 3 1 v 104 (icells (varsL o 104)) ∧ Below w.heap.size w w' := by
  have hen := V.en
  have HV := Lib.hid V
  obtain ⟨i0, hif, hz0, hz1, hz2⟩ := info_parts Try.infoInt
  clear V
  go_enter Try.func21, Try.ntmps21
  go_wp2
  go_loopw [3, 5] (fun r i wr => ∃ m : Nat, m ≤ 104 ∧ i = .int .i64 m ∧ Hid (wr.ownsRow w.heap.size 3 1 r m (icells (varsL o m))) ∧ Hid (Below w.heap.size w wr)) (fun _ i _ => 104 - (intOf i).toNat)
  case atStart => exact ⟨0, by omega, rfl, Lib.hid (World.ownsRow_nil _ _ _ _), Lib.hid (Below.refl _ _)⟩
  case round =>
    obtain ⟨m, hm, rfl, HO, HB⟩ := hrel
    by_cases hlt : m < 104
    · have hI : (m : Int) < 104 := by omega
      obtain ⟨x, hx⟩ : ∃ x, x = 2 * m + o := ⟨_, rfl⟩
      have HN := Lib.hid (show ∀ W, Calls Try.prog vf #[.int .i64 m] W (fun e w' => e = .returned (.int .i64 (x : Int)) ∧ w' = W) from fun W => by
        have := HV.out.calls m W (by omega)
        rw [← hx] at this
        exact this)
      have HX := Lib.hid hx
      have hbs := HB.out.size
      have hml : m ≤ 1099511627776 := by omega
      obtain ⟨Ar, cr, hr, _⟩ := owns_form HO.out
      subst hr
      clear hx
      go_upto_region 5 with fail
      go_wp2_with (first
        | ((with_reducible refine (HN.out _).mono ?_); rintro e _ ⟨rfl, rfl⟩)
        | (at_builtin; refine wpList_push2 (v := .slice Ar m cr) rfl _ _ 52 rfl 3 i0 _ 1 8 Try.underlying52 hif hz0 hz1 hz2 rfl (by decide) (by decide) [.int .i64 x] rfl rfl rfl HO.out rfl (one_i64 _) hml hbs ?_; intro v2 w2 hown2 hg2 hmv2; have HO2 := Lib.hid hown2; have HB2 := Lib.hid (below_grown HB.out hbs hg2 (fun g hg => (HO.out.lt g hg).1)); clear hown2 hg2 hmv2))
      exact ⟨⟨m + 1, by omega, by go_num, Lib.hid (by rw [varsL_snoc, ← HX.out]; simpa [icells] using HO2.out), HB2⟩, by simp only [intOf]; omega⟩
    · obtain rfl : m = 104 := by omega
      have hI : ¬ ((104 : Nat) : Int) < 104 := by omega
      go_wp2
      go_ret
      exact ⟨_, rfl, HO.out, HB.out⟩
end Go.Proofs.Ytcchiagclhkieaa

/-
  No number of a list does what is asked; are variables known; a number times 2 to the 104.
-/
namespace Go.Proofs.Ytcchiagclhkieaa
open Go Go.RowKit Go.ChangeMaps Go.MapKept Go.Maps Go.Lib Go.Sort

section
set_option maxRecDepth 100000
set_option maxHeartbeats 4000000
theorem indexNone (L : List Int) (v : Value) (g : FuncId) (lb : Array Value) (w : World) (en : ∀ (args : Array Value) (w : World), (callFunc g args).run Try.prog w = .ok (.enter g args) w)
    (hp : ∀ W x, Below w.heap.size w W → x ∈ L → Calls Try.prog g (#[.int .i64 x] ++ lb) W fun e W' => e = .returned (.bool false) ∧ Below W.heap.size W W') (h : Rd w w.heap.size 1 v L.length (icells L)) (hlen : L.length ≤ 1000) :
    Calls Try.prog 92 #[v, .func (.func g) #[] lb] w fun e w' => e = .returned (.int .i64 (-1)) ∧ Below w.heap.size w w' := by
  obtain ⟨A, c, rfl, hc⟩ := h.form
  have HP := Lib.hid hp
  have HR := Lib.hid h
  clear hp h
  go_enter Try.func92, Try.ntmps92
  go_wp2
  go_loopw [8] (fun i wr => ∃ k : Nat, i = .int .i64 k ∧ k ≤ L.length ∧ Hid (Below w.heap.size w wr)) (fun i _ => L.length - (intOf i).toNat)
  case atStart => exact ⟨0, rfl, by omega, Lib.hid (Below.refl _ _)⟩
  case round =>
    obtain ⟨k, rfl, hk, HB⟩ := hrel
    by_cases hlt : k < L.length
    · have hI : (k : Int) < (L.length : Int) := by omega
      obtain ⟨x, hx⟩ : ∃ x, L[k]? = some x := ⟨_, List.getElem?_eq_getElem hlt⟩
      obtain ⟨b, off, c', hv, _, hbB, hcell⟩ := HR.out.pos (by omega)
      injection hv with hv1 hvl hv3
      subst hv1 hv3
      clear hvl
      have c0 : wr.cell? ⟨b, off + k, none⟩ = some (.int .i64 x) := (HB.out.cell (p := ⟨b, off + k, none⟩) hbB).trans (hcell k _ (by simp [icells, hx]))
      have HC := Lib.hid (HP.out wr x HB.out (List.mem_of_getElem? hx))
      clear hcell hx
      go_wp2_with fail
      refine HC.out.mono ?_
      rintro e w1 ⟨rfl, hb1⟩
      have HB1 := Lib.hid (HB.out.trans (hb1.mono HB.out.size))
      clear hb1 c0 HC
      go_wp2
      exact ⟨⟨k + 1, by go_num, by omega, HB1⟩, by simp only [intOf]; omega⟩
    · obtain rfl : k = L.length := by omega
      have hI : ¬ (L.length : Int) < (L.length : Int) := by omega
      go_wp2
      go_ret
      exact ⟨rfl, HB.out⟩
theorem containsNone (L : List Int) (v : Value) (g : FuncId) (lb : Array Value) (w : World) (en : ∀ (args : Array Value) (w : World), (callFunc g args).run Try.prog w = .ok (.enter g args) w)
    (hp : ∀ W x, Below w.heap.size w W → x ∈ L → Calls Try.prog g (#[.int .i64 x] ++ lb) W fun e W' => e = .returned (.bool false) ∧ Below W.heap.size W W') (h : Rd w w.heap.size 1 v L.length (icells L)) (hlen : L.length ≤ 1000) :
    Calls Try.prog 80 #[v, .func (.func g) #[] lb] w fun e w' => e = .returned (.bool false) ∧ Below w.heap.size w w' := by
  have HI := Lib.hid (indexNone L v g lb w en hp h hlen)
  obtain ⟨A, c, rfl, hc⟩ := h.form
  clear hp h
  go_enter Try.func80, Try.ntmps80
  go_wp2_with fail
  refine HI.out.mono ?_
  rintro e w1 ⟨rfl, hb⟩
  have HB := Lib.hid hb
  clear hb HI
  go_wp2
  go_ret
  exact ⟨rfl, HB.out⟩
variable {B : Nat} {A : Blks} {V Mo : Nat} {N : List Nd} {H G : List Nat}
theorem knownClos {w : World} (hA : ArAt w B A V Mo N H G) (bx : Nat) (hb : w.cell? ⟨bx, 0, none⟩ = some (.pointer (some ⟨A.a, 0, none⟩))) (x : Int) (hx : 0 ≤ x ∧ x < V) :
    Calls Try.prog 81 #[.int .i64 x, .pointer (some ⟨bx, 0, none⟩)] w fun e w' => e = .returned (.bool false) ∧ Below w.heap.size w w' := by
  obtain ⟨nv, ha⟩ := hA
  have a0 : w.cell? ⟨A.a, 0, none⟩ = some (.int .i64 V) := ha.cellAt rfl
  have h0 : ¬ x < 0 := by omega
  have h1 : ¬ (V : Int) ≤ x := by omega
  clear ha
  go_enter Try.func81, Try.ntmps81
  go_wp2
  go_ret
  exact ⟨rfl, Below.refl _ _⟩
theorem known_yes {w : World} (hA : ArAt w B A V Mo N H G) (L : List Int) (v : Value) (h : Rd w w.heap.size 1 v L.length (icells L)) (hL : ∀ x ∈ L, 0 ≤ x ∧ x < V) (hlen : L.length ≤ 1000) :
    Calls Try.prog 47 #[A.val, v] w fun e w' => e = .returned (.bool true) ∧ Below w.heap.size w w' := by
  obtain ⟨PL, c, rfl, hc⟩ := h.form
  have hb := below1 w (.cells #[.pointer (some ⟨A.a, 0, none⟩)] 64)
  have hk := blk1 w (.cells #[.pointer (some ⟨A.a, 0, none⟩)] 64)
  have HC := Lib.hid (containsNone L (.slice PL L.length c) 81 #[.pointer (some ⟨w.heap.size, 0, none⟩)] (w.alloc (.cells #[.pointer (some ⟨A.a, 0, none⟩)] 64)) (enters_of Try.func81 (by kernel_rfl) rfl)
    (fun W x hW hx => knownClos ((hA.below hb).below hW) w.heap.size (cell0 (blk_below hW hk)) x (hL x hx)) ((h.below hb).mono hb.size) hlen)
  have HB := Lib.hid hb
  clear hA h hb hk
  unfold Blks.val
  go_enter Try.func47, Try.ntmps47
  go_wp2_with fail
  refine HC.out.mono ?_
  rintro e w1 ⟨rfl, hb1⟩
  have HB1 := Lib.hid (HB.out.trans (hb1.mono HB.out.size))
  clear hb1 HC
  go_wp2
  go_ret
  exact ⟨rfl, HB1.out⟩
theorem results_cnt1 {fn : Func} {tmps : Array Value} {w : World} {g : Nat} {a b : Int} {t1 : Nat} (hf : fn.results = #[.cell t1 37]) (h1 : tmps.getD t1 undef = .pointer (some ⟨g, 0, none⟩)) (k1 : w.heap[g]? = some (.cells #[.int .u64 a, .int .u64 b] 37 (0, 0))) :
    (results fn tmps).run Try.prog w = .ok (.agg #[.int .u64 a, .int .u64 b]) w := by
  obtain ⟨c0, c1, _, _⟩ := two_cells k1
  have h1' : tmps[t1]?.getD undef = .pointer (some ⟨g, 0, none⟩) := by simpa using h1
  simp [results, hf, h1', go_sem, c0, c1]
theorem results_cnt2 {fn : Func} {tmps : Array Value} {w : World} {g : Nat} {a b : Int} {e : Value} {t1 t3 : Nat} (hf : fn.results = #[.cell t1 37, .tmp t3]) (h1 : tmps.getD t1 undef = .pointer (some ⟨g, 0, none⟩)) (h3 : tmps.getD t3 undef = e) (k1 : w.heap[g]? = some (.cells #[.int .u64 a, .int .u64 b] 37 (0, 0))) :
    (results fn tmps).run Try.prog w = .ok (.tuple #[.agg #[.int .u64 a, .int .u64 b], e]) w := by
  obtain ⟨c0, c1, _, _⟩ := two_cells k1
  have h1' : tmps[t1]?.getD undef = .pointer (some ⟨g, 0, none⟩) := by simpa using h1
  have h3' : tmps[t3]?.getD undef = e := by simpa using h3
  simp [results, hf, h1', h3', go_sem, c0, c1]
theorem times_104 (w : World) : Calls Try.prog 56 #[.agg #[.int .u64 0, .int .u64 1], .int .i64 104] w fun e w' => e = .returned (.agg #[.int .u64 1099511627776, .int .u64 0]) ∧ Below w.heap.size w w' := by
  go_enter Try.func56, Try.ntmps56
  go_upto_region 3 with fail
  obtain ⟨k0, k1⟩ := blk2 w (.cells #[.int .u64 1, .int .u64 0] 37) (.cells #[.int .u64 0, .int .u64 0] 37)
  have hb := below2 w (.cells #[.int .u64 1, .int .u64 0] 37) (.cells #[.int .u64 0, .int .u64 0] 37)
  have HB := Lib.hid hb
  clear hb
  generalize (w.alloc (.cells #[.int .u64 1, .int .u64 0] 37)).alloc (.cells #[.int .u64 0, .int .u64 0] 37) = w1 at *
  obtain ⟨c0, c1, _, _⟩ := two_cells k0
  obtain ⟨d0, d1, _, _⟩ := two_cells k1
  have f0 := frozen_of_row _ _ 0 _ _ k1
  have f1 := frozen_of_row _ _ 1 _ _ k1
  have K1 := Lib.hid k1
  clear k0 k1
  have e5 : bits BinOp.or IntKind.u64 1099511627776 0 = 1099511627776 := by decide
  have e1 : IntKind.i64.wrap 24 = 24 := by decide
  have e2 : IntKind.u64.wrap 1099511627776 = 1099511627776 := by decide
  have e3 : IntKind.u64.wrap 0 = 0 := by decide
  have e4 : (Op.shift BinOp.shr IntKind.u64 0 IntKind.i64 24).run Try.prog = fun w => .ok (.int .u64 0) w := by funext w; rfl
  go_region_held3 (fun w' => w'.cell? ⟨w.heap.size, 0, none⟩ = some (.int .u64 1) ∧ w'.cell? ⟨w.heap.size, 1, none⟩ = some (.int .u64 0)) (go_keep) (fail)
  have z1 : (w1.setCell ⟨w.heap.size + 1, 0, none⟩ (.int .u64 1099511627776)).heap[w.heap.size + 1]? = some (.cells #[.int .u64 1099511627776, .int .u64 0] 37 (0, 0)) := heap_setCell_same _ _ _ _ _ _ K1.out
  have z2 : ((w1.setCell ⟨w.heap.size + 1, 0, none⟩ (.int .u64 1099511627776)).setCell ⟨w.heap.size + 1, 1, none⟩ (.int .u64 0)).drew.heap[w.heap.size + 1]? = some (.cells #[.int .u64 1099511627776, .int .u64 0] 37 (0, 0)) := heap_setCell_same _ _ _ _ _ _ z1
  have hbz : Below w.heap.size w ((w1.setCell ⟨w.heap.size + 1, 0, none⟩ (.int .u64 1099511627776)).setCell ⟨w.heap.size + 1, 1, none⟩ (.int .u64 0)).drew := by
    have h1 := HB.out.setCell (p := ⟨w.heap.size + 1, 0, none⟩) (Nat.le_succ _) (.int .u64 1099511627776)
    have h2 := h1.setCell (p := ⟨w.heap.size + 1, 1, none⟩) (Nat.le_succ _) (.int .u64 0)
    exact ⟨h2.os, h2.tape, h2.output, h2.size, h2.block⟩
  have HBZ := Lib.hid hbz
  clear hbz z1 c0 c1 d0 d1 f0 f1
  generalize ((w1.setCell ⟨w.heap.size + 1, 0, none⟩ (.int .u64 1099511627776)).setCell ⟨w.heap.size + 1, 1, none⟩ (.int .u64 0)).drew = w9 at *
  have Z2 := Lib.hid z2
  clear z2
  go_wp2
  exact bodyPost_ret (results_cnt1 (t1 := 4) (g := w.heap.size + 1) Try.results56 rfl Z2.out) rfl ⟨rfl, HBZ.out⟩
end
end Go.Proofs.Ytcchiagclhkieaa

/-
  Do variables rise, at a terminal.
-/
namespace Go.Proofs.Ytcchiagclhkieaa
open Go Go.RowKit Go.ChangeMaps Go.MapKept Go.Maps Go.Lib Go.Sort

/-- A list of numbers that rises. -/
def RiseL (L : List Int) : Prop := ∀ (k : Nat) (x y : Int), L[k + 1]? = some x → L[k]? = some y → y < x
theorem varsL_rise (o n : Nat) : RiseL (varsL o n) := by
  intro k x y hx hy
  have h1 := (List.getElem?_eq_some_iff.1 hx).1
  rw [varsL_len] at h1
  rw [varsL_get o n h1] at hx
  rw [varsL_get o n (by omega)] at hy
  injection hx with hx
  injection hy with hy
  omega
theorem varsL_in (n : Nat) : ∀ x ∈ varsL 0 n, 0 ≤ x ∧ x < 2 * n := by
  intro x hx
  obtain ⟨i, hi, rfl⟩ := List.mem_map.1 hx
  have := List.mem_range.1 hi
  omega
section
set_option maxRecDepth 100000
set_option maxHeartbeats 4000000
variable {B : Nat} {A : Blks} {V Mo : Nat} {N : List Nd} {H G : List Nat}
theorem rises_yes {w : World} (hA : ArAt w B A V Mo N H G) (f : Nat) (hf : f ∈ G ∧ f < N.length) (h2 : f < 2) (L : List Int) (v : Value) (h : Rd w w.heap.size 1 v L.length (icells L)) (hL : ∀ x ∈ L, 0 ≤ x ∧ x < V) (hr : RiseL L) (hlen : L.length ≤ 1000) :
    Calls Try.prog 52 #[A.val, .int .i64 f, v] w fun e w' => e = .returned (.bool true) ∧ Below w.heap.size w w' := by
  obtain ⟨PL, c, rfl, hc⟩ := h.form
  have hb := below1 w (.cells #[.slice PL L.length c] 52)
  have hk := blk1 w (.cells #[.slice PL L.length c] 52)
  have HA := Lib.hid (hA.below hb)
  have HB := Lib.hid hb
  have HK := Lib.hid hk
  have HR := Lib.hid ((h.below hb).mono hb.size)
  have HL := Lib.hid hL
  have HRI := Lib.hid hr
  have HF := Lib.hid hf
  have c0 := cell0 hk
  clear hA h hb hk hL hr hf
  unfold Blks.val
  go_enter Try.func52, Try.ntmps52
  go_upto_region 1 with fail
  generalize w.alloc (.cells #[.slice PL L.length c] 52) = w0 at *
  go_wp2
  go_loopw [13] (fun i wr => ∃ k : Nat, i = .int .i64 k ∧ k ≤ L.length ∧ wr = w0) (fun i _ => L.length - (intOf i).toNat)
  case atStart => exact ⟨0, rfl, by omega, rfl⟩
  case round =>
    obtain ⟨k, rfl, hk, rfl⟩ := hrel
    by_cases hlt : k < L.length
    · have hI : (k : Int) < (L.length : Int) := by omega
      obtain ⟨x, hx⟩ : ∃ x, L[k]? = some x := ⟨_, List.getElem?_eq_getElem hlt⟩
      obtain ⟨b, off, c', hv, _, hbB, hcell⟩ := HR.out.pos (by omega)
      injection hv with hv1 hvl hv3
      subst hv1 hv3
      clear hvl
      have d0 : wr.cell? ⟨b, off + k, none⟩ = some (.int .i64 x) := hcell k _ (by simp [icells, hx])
      rcases Nat.eq_zero_or_pos k with hk0 | hk0
      · have hkI : ¬ (k : Int) > 0 := by omega
        clear hk0 hcell hx
        go_wp2
        exact ⟨⟨k + 1, by go_num, by omega, trivial⟩, by simp only [intOf]; omega⟩
      · obtain ⟨m, rfl⟩ : ∃ m, k = m + 1 := ⟨k - 1, by omega⟩
        obtain ⟨y, hy⟩ : ∃ y, L[m]? = some y := ⟨_, List.getElem?_eq_getElem (by omega)⟩
        have d1 : wr.cell? ⟨b, off + m, none⟩ = some (.int .i64 y) := hcell m _ (by simp [icells, hy])
        have hxy : ¬ x ≤ y := by have := HRI.out m x y hx hy; omega
        have hkI : ((m + 1 : Nat) : Int) > 0 := by omega
        have hm1 : ((m + 1 : Nat) : Int) - 1 = (m : Int) := by omega
        have hmI : (m : Int) < (L.length : Int) := by omega
        clear hk0 hcell hx hy
        go_wp2
        exact ⟨⟨m + 1 + 1, by go_num, by omega, trivial⟩, by simp only [intOf]; omega⟩
    · obtain rfl : k = L.length := by omega
      have hI : ¬ (L.length : Int) < (L.length : Int) := by omega
      have HSU := Lib.hid (Support_any f HA.out HF.out)
      unfold Blks.val at HSU
      go_upto_region 8 with ((with_reducible refine HSU.out.mono ?_); rintro e w2 ⟨v2, L2, rfl, ho2, hm2, hl2, hb2⟩; have HO2 := Lib.hid ho2; have HM2 := Lib.hid hm2; have HB2 := Lib.hid hb2; clear ho2 hm2 hl2 hb2)
      obtain rfl : L2 = [] := by
        refine List.eq_nil_iff_forall_not_mem.2 fun x hx => ?_
        obtain ⟨i, hi, hri, _⟩ := (HM2.out x).1 hx
        have := hri.low h2
        omega
      have d0 : w2.cell? ⟨w.heap.size, 0, none⟩ = some (.slice PL L.length c) := cell0 (blk_below HB2.out HK.out)
      have HKN := Lib.hid (known_yes (HA.out.below HB2.out) L (.slice PL L.length c) ((HR.out.below HB2.out).mono HB2.out.size) HL.out hlen)
      unfold Blks.val at HKN
      clear HSU c0
      go_wp2_with fail
      refine HKN.out.mono ?_
      rintro e w3 ⟨rfl, hb3⟩
      have HB3 := Lib.hid hb3
      have HCN := Lib.hid (containsNone [] v2 84 #[.pointer (some ⟨w.heap.size, 0, none⟩)] w3 (enters_of Try.func84 (by kernel_rfl) rfl) (fun W x _ hx => absurd hx (by simp)) (((Rd.of_own HO2.out).below hb3).mono hb3.size) (by simp))
      clear hb3 HKN d0
      go_wp2_with fail
      refine HCN.out.mono ?_
      rintro e w4 ⟨rfl, hb4⟩
      have HB4 := Lib.hid (HB.out.trans ((HB2.out.trans ((HB3.out.trans (hb4.mono HB3.out.size)).mono HB2.out.size)).mono HB.out.size))
      clear hb4 HCN
      go_wp2
      go_ret
      exact ⟨rfl, HB4.out⟩
end
end Go.Proofs.Ytcchiagclhkieaa

/-
  A region that draws its order, walked in the order of the text: the class of worlds is any that the prover names. No program in sight.
-/
namespace Go.Proofs.Ytcchiagclhkieaa
open Go Go.RowKit Go.Sort

section
variable {P : Program} {ops : Array Oper} {Q : Exit → Act → World → Prop}
/-- The worlds that meet S. -/
structure InW (S : World → Prop) where
  w : World
  h : S w
@[reducible] def InS (S : World → Prop) : World → Prop := fun w' => ∃ p : InW S, w' = p.w
theorem inS {S : World → Prop} {w : World} (h : S w) : InS S w := ⟨⟨w, h⟩, rfl⟩
theorem inS_sub {S S' : World → Prop} (h : ∀ v, S' v → S v) : ∀ v, InS S' v → InS S v := by
  intro v hv
  obtain ⟨p, hp⟩ := hv
  exact ⟨⟨p.w, h _ p.h⟩, hp⟩
theorem wp_region_mixS {id : Nat} {a : Act} {w : World} {l : List Oper} (S : World → Prop) (m : List (Nat × Bool)) (hm : P.follows .mixedOrders = true) (hB : mixOk l m = true) (hS : S { w with drawn := w.drawn + 1 })
    (h : mixW P l.toArray (NoPanic Q) m (fun w' => ∃ p : InW S, w' = p.w) a { w with drawn := w.drawn + 1 }) : (Code.region id l.toArray true).wp P Q a w := by
  simp only [mixOk, Bool.and_eq_true, decide_eq_true_eq] at hB
  obtain ⟨⟨hs, hlen⟩, hmix⟩ := hB
  refine wp_region_noPanic (wp_region_held (S := InS S) hm ?_)
  have H := mix_sound (md := .any) hs (fun d v c a w hh => hh) m _ (Array.replicate l.length false) a { w with drawn := w.drawn + 1 } hmix (inS hS) h
  rw [hlen] at H
  simpa using H
/-- A barrier behind which the class may be narrower. -/
theorem mix_barS {m : List (Nat × Bool)} {k : Nat} {o : Oper} {a : Act} {S : World → Prop} {w : World} (ho : ops[k]? = some o) (hw : Region.wanted o (yielded ops a.tmps) = true)
    (h : o.wp P a w (fun a' w' => ∃ S' : World → Prop, S' w' ∧ (∀ v, S' v → S v) ∧ mixW P ops Q m (fun w' => ∃ p : InW S', w' = p.w) a' w') Q) : mixW P ops Q ((k, true) :: m) (fun w' => ∃ p : InW S, w' = p.w) a w := by
  simp only [mixW]
  refine ⟨o, ho, ?_⟩
  rw [if_pos hw]
  exact Oper.wp_mono (fun a' w' hh => by obtain ⟨S', h1, h2, h3⟩ := hh; exact ⟨_, inS h1, inS_sub h2, h3⟩) h
end
end Go.Proofs.Ytcchiagclhkieaa

/-
  Joined texts: Rc1, Rd0, Rf1, Fr2, Fr3, Fr4.
-/
import Derived.Test.YtcchiagclhkieaaMFilterNames4
import Derived.Test.YtcchiagclhkieaaMFilterNames11
/-
  What a space checks: nodes, and sets.
-/
namespace Go.Proofs.Ytcchiagclhkieaa
open Go Go.RowKit Go.ChangeMaps Go.MapKept Go.Maps Go.Lib Go.Sort

/-- A list of numbers in memory, in a block that is none of the space's. -/
structure RowI (A : Blks) (km : Nat) (w : World) (v : Value) (l : List Int) : Prop where
  form : ∃ (P : Option Addr) (c : Nat), v = .slice P l.length c ∧ ∀ (i : Nat) x, l[i]? = some x → ∃ g, P = some ⟨g, 0, none⟩ ∧ w.cell? ⟨g, i, none⟩ = some (.int .i64 x) ∧ Foreign A w g ∧ g ≠ km
  range : ∀ x ∈ l, -9223372036854775808 ≤ x ∧ x ≤ 9223372036854775807
theorem RowI.kept {A : Blks} {km : Nat} {w w' : World} {v : Value} {l : List Int} (h : RowI A km w v l) (k : KeptS A km w w') : RowI A km w' v l := by
  obtain ⟨P, c, hv, hc⟩ := h.form
  refine ⟨⟨P, c, hv, fun i x hx => ?_⟩, h.range⟩
  obtain ⟨g, h1, h2, h3, h4⟩ := hc i x hx
  exact ⟨g, h1, (World.cell?_of_block (k.same g h3 h4).1).trans h2, (k.same g h3 h4).2, h4⟩
theorem RowI.nil (A : Blks) (km : Nat) (w : World) : RowI A km w (.slice none 0 0) [] := ⟨⟨none, 0, rfl, fun i x h => by simp at h⟩, by simp⟩
def NodeOk (σ : Sg) (x : Int) : Prop := ∃ g ∈ σ.G, x = (g : Int)
def SetOk (σ : Sg) (x : Int) : Prop := ∃ g ∈ σ.G, x = (g : Int) ∧ IsSet σ.N g
def AllNum (σ : Sg) (sets nodes : List Int) : Prop := (∀ x ∈ nodes, NodeOk σ x) ∧ ∀ x ∈ sets, SetOk σ x
def Sg.know (σ : Sg) (K : List (Value × Value)) : Sg := ⟨σ.N, σ.H, σ.G, K⟩
/-- What is known turned, and nothing else. -/
theorem SpOk.knows {w w' : World} {B S km : Nat} {A : Blks} {Mo : Nat} {σ : Sg} (h : SpOk w B S km A Mo σ) {x : Int} {v : Value} (hm : MapAt Try.prog 3 w' km (putM σ.K (.int .i64 x) v)) (hg : w.grownBy w' (some km))
    (hv : ∃ g ∈ σ.G, x = (g : Int) ∧ (v = .int .i64 1 ∨ v = .int .i64 2 ∧ IsSet σ.N g)) : SpOk w' B S km A Mo (σ.know (putM σ.K (.int .i64 x) v)) ∧ KeptS A km w w' := by
  obtain ⟨nv, hA⟩ := h.sp.ar
  obtain ⟨a1, a2, a3⟩ := hA.calm hg.size fun k hk hf => hg.block k hk (fun e => hf (by injection e with e; rw [e]; exact h.sp.fk))
  have hS := lt_of_block h.sp.cells
  refine ⟨⟨⟨⟨nv, a1⟩, (hg.block S hS (fun e => h.sp.ne (by injection e))).trans h.sp.cells, a2 _ h.sp.fs, hm, a2 _ h.sp.fk, h.sp.ne⟩, ⟨h.ok.wf, h.ok.hok, h.ok.cl, h.ok.g, h.ok.g0, h.ok.g1, fun p hp => ?_, h.ok.mo, h.ok.le⟩⟩, ⟨hg.os, hg.tape, hg.output, hg.size, fun k hk hn => ⟨hg.block k hk.1 (fun e => hn (by injection e)), a2 k hk⟩⟩⟩
  have hp : p ∈ putM σ.K (.int .i64 x) v := hp
  unfold putM at hp
  obtain ⟨g, g1, g2, g3⟩ := hv
  split at hp
  · obtain ⟨q, hq, rfl⟩ := List.mem_map.1 hp
    split
    · exact ⟨g, g1, by rw [g2], g3⟩
    · exact h.ok.k q hq
  · rcases List.mem_append.1 hp with hp | hp
    · exact h.ok.k p hp
    · obtain rfl := List.mem_singleton.1 hp
      exact ⟨g, g1, by rw [g2], g3⟩
theorem isSet_iff {N : List Nd} (w : WF N) {g : Nat} (hg : g < N.length) : IsSet N g ↔ ∀ i, 2 ≤ i → Rch N g i → (nd N i).v % 2 = 0 := by
  constructor
  · intro h i h2 hr
    rcases Nat.mod_two_eq_zero_or_one (nd N i).v with e | e
    · exact e
    · exact absurd (h _ e) (not_free w hg hr h2)
  · intro h v hv
    refine free_of w hg fun j hj hr e => ?_
    have := h j hj hr
    omega
theorem SpOk.look {w : World} {B S km : Nat} {A : Blks} {Mo : Nat} {σ : Sg} (h : SpOk w B S km A Mo σ) (x : Int) (hx : -9223372036854775808 ≤ x ∧ x ≤ 9223372036854775807) :
    ∃ v : Int, (Instr.lookup 65 (.map (some km)) (.int .i64 x) false).run Try.prog w = .ok (.int .i64 v) w ∧ (v = 0 ∨ v = 1 ∧ NodeOk σ x ∨ v = 2 ∧ SetOk σ x) := by
  have h1 := h.sp.known.look i64_keyed Try.underlying65 (show (zeroValue 3).run Try.prog w = .ok (.int .i64 0) w by kernel_rfl) false (key_i64 hx)
  cases hg : getM σ.K (.int .i64 x) with
  | none =>
    rw [hg] at h1
    exact ⟨0, h1, .inl rfl⟩
  | some u =>
    rw [hg] at h1
    obtain ⟨g, g1, g2, g3⟩ := h.ok.k _ (getM_mem hg)
    have hxg : x = (g : Int) := by
      have g2 : Value.int .i64 x = .int .i64 (g : Int) := g2
      injection g2
    rcases g3 with g3 | ⟨g3, g4⟩
    · have g3 : u = .int .i64 1 := g3
      subst g3
      exact ⟨1, h1, .inr (.inl ⟨rfl, g, g1, hxg⟩)⟩
    · have g3 : u = .int .i64 2 := g3
      subst g3
      exact ⟨2, h1, .inr (.inr ⟨rfl, g, g1, hxg, g4⟩)⟩
theorem AllNum.snoc {P : Int → Prop} {l : List Int} {k : Nat} {x : Int} (h : ∀ y ∈ l.take k, P y) (hx : l[k]? = some x) (hp : P x) : ∀ y ∈ l.take (k + 1), P y := by
  intro y hy
  rw [List.take_add_one, hx] at hy
  rcases List.mem_append.1 hy with hy | hy
  · exact h y hy
  · simp at hy
    rw [hy]
    exact hp
/-- What checked comes to. -/
def ChRes (w : World) (B S km : Nat) (A : Blks) (Mo : Nat) (σ : Sg) (sets nodes : List Int) (e : Ending) (w' : World) : Prop :=
  ∃ K, SpOk w' B S km A Mo (σ.know K) ∧ KeptS A km w w' ∧ (e = .returned (.int .i64 0) ∧ AllNum σ sets nodes ∨ e = .returned (.int .i64 1) ∧ ¬ AllNum σ sets nodes)
set_option maxRecDepth 100000 in
set_option maxHeartbeats 4000000 in
theorem checked_any {w : World} {B S km : Nat} {A : Blks} {Mo : Nat} {σ : Sg} (h : SpOk w B S km A Mo σ) (sv nv : Value) (sets nodes : List Int) (hs : RowI A km w sv sets) (hn : RowI A km w nv nodes) (ls : sets.length ≤ 1000) (ln : nodes.length ≤ 1000) :
    Calls Try.prog 19 #[.pointer (some ⟨S, 0, none⟩), sv, nv] w (ChRes w B S km A Mo σ sets nodes) := by
  have HS := Lib.hid h
  have HSV := Lib.hid hs
  have HNV := Lib.hid hn
  obtain ⟨Ps, cs, rfl, _⟩ := hs.form
  obtain ⟨Pn, cn, rfl, _⟩ := hn.form
  clear h hs hn
  go_enter Try.func19, Try.ntmps19
  go_wp2
  go_loopw [21] (fun i wr => ∃ k : Nat, i = .int .i64 k ∧ k ≤ nodes.length ∧ ∃ K, Hid (SpOk wr B S km A Mo (σ.know K)) ∧ Hid (KeptS A km w wr) ∧ Hid (∀ y ∈ nodes.take k, NodeOk σ y)) (fun i _ => nodes.length - (intOf i).toNat)
  case atStart => exact ⟨0, rfl, by omega, σ.K, HS, Lib.hid (KeptS.refl _ _ _), Lib.hid (by simp)⟩
  case round =>
    obtain ⟨k, rfl, hk, K, HSR, HKR, HOK⟩ := hrel
    have c0 := HSR.out.sp.c0
    have c1 := HSR.out.sp.c1
    by_cases hlt : k < nodes.length
    · have hI : (k : Int) < (nodes.length : Int) := by omega
      obtain ⟨x, hx⟩ : ∃ x, nodes[k]? = some x := ⟨_, List.getElem?_eq_getElem hlt⟩
      obtain ⟨P', c', hv', hcell⟩ := (HNV.out.kept HKR.out).form
      injection hv' with hP hlq hcq
      subst hP hcq
      clear hlq
      obtain ⟨g, rfl, hcx, _, _⟩ := hcell k x hx
      have hxr := HNV.out.range x (List.mem_of_getElem? hx)
      obtain ⟨v, hlook, hvs⟩ := HSR.out.look x hxr
      have HX := Lib.hid hx
      have HR := Lib.hid hxr
      clear hx hxr hcell
      by_cases hv1 : v ≥ 1
      · have HN := Lib.hid (show NodeOk σ x from by
          rcases hvs with h | ⟨_, h⟩ | ⟨_, h⟩
          · omega
          · exact h
          · obtain ⟨g, g1, g2, _⟩ := h; exact ⟨g, g1, g2⟩)
        clear hvs
        go_wp2
        exact ⟨⟨k + 1, by go_num, by omega, K, HSR, HKR, Lib.hid (AllNum.snoc HOK.out HX.out HN.out)⟩, by simp only [intOf]; omega⟩
      · clear hvs
        by_cases hno : NodeOk σ x
        · obtain ⟨f, hf, rfl⟩ := hno
          have hSz := Size_any f HSR.out.sp.ar ⟨hf, (HSR.out.ok.g f hf).1⟩
          unfold Blks.val at hSz
          have HSZ := Lib.hid hSz
          have HF := Lib.hid hf
          clear hSz hf
          go_upto_region 10 with ((with_reducible refine HSZ.out.mono ?_); rintro e W2 ⟨rfl, hb2⟩; have HS2 := Lib.hid (HSR.out.below hb2); have HK2 := Lib.hid (HKR.out.trans (HSR.out.kept hb2)); clear hb2)
          have c0 := HS2.out.sp.c0
          have c1 := HS2.out.sp.c1
          have hkx := key_i64 HR.out
          go_wp2_with (refine wpList_mapAt rfl _ _ _ 65 3 rfl i64_keyed Try.underlying65 rfl (show MapAt _ _ W2 _ _ from HS2.out.sp.known) (.int .i64 f) (.int .i64 1) _ rfl rfl hkx ?_; intro w3 hm3 hg3; obtain ⟨p1, p2⟩ := HS2.out.knows hm3 hg3 ⟨f, HF.out, rfl, .inl rfl⟩; have P1 := Lib.hid p1; have P2 := Lib.hid (HK2.out.trans p2); clear p1 p2 hm3 hg3)
          exact ⟨⟨k + 1, by go_num, by omega, _, P1, P2, Lib.hid (AllNum.snoc HOK.out HX.out ⟨f, HF.out, rfl⟩)⟩, by simp only [intOf]; omega⟩
        · have hSz := Size_no x HSR.out.sp.ar HR.out (fun g hg e => hno ⟨g, hg, e⟩)
          unfold Blks.val at hSz
          have HSZ := Lib.hid hSz
          have HNO := Lib.hid hno
          clear hSz hno
          go_wp2_with ((with_reducible refine HSZ.out.mono ?_); rintro e W2 ⟨rfl, hb2⟩; have HS2 := Lib.hid (HSR.out.below hb2); have HK2 := Lib.hid (HKR.out.trans (HSR.out.kept hb2)); clear hb2)
          go_ret
          exact ⟨K, HS2.out, HK2.out, .inr ⟨rfl, fun h => HNO.out (h.1 x (List.mem_of_getElem? HX.out))⟩⟩
    · obtain rfl : k = nodes.length := by omega
      have hI : ¬ (nodes.length : Int) < (nodes.length : Int) := by omega
      have HN := Lib.hid (show ∀ y ∈ nodes, NodeOk σ y by have := HOK.out; rw [List.take_length] at this; exact this)
      clear HOK
      go_wp2
      go_loopw [51] (fun i w2 => ∃ k : Nat, i = .int .i64 k ∧ k ≤ sets.length ∧ ∃ K, Hid (SpOk w2 B S km A Mo (σ.know K)) ∧ Hid (KeptS A km w w2) ∧ Hid (∀ y ∈ sets.take k, SetOk σ y)) (fun i _ => sets.length - (intOf i).toNat)
      case atStart => exact ⟨0, rfl, by omega, K, HSR, HKR, Lib.hid (by simp)⟩
      case round =>
        obtain ⟨k, rfl, hk, K, HSR, HKR, HOK⟩ := hrel
        have c0 := HSR.out.sp.c0
        have c1 := HSR.out.sp.c1
        by_cases hlt : k < sets.length
        · have hI : (k : Int) < (sets.length : Int) := by omega
          obtain ⟨x, hx⟩ : ∃ x, sets[k]? = some x := ⟨_, List.getElem?_eq_getElem hlt⟩
          obtain ⟨P', c', hv', hcell⟩ := (HSV.out.kept HKR.out).form
          injection hv' with hP hlq hcq
          subst hP hcq
          clear hlq
          obtain ⟨g, rfl, hcx, _, _⟩ := hcell k x hx
          have hxr := HSV.out.range x (List.mem_of_getElem? hx)
          obtain ⟨v, hlook, hvs⟩ := HSR.out.look x hxr
          have HX := Lib.hid hx
          have HR := Lib.hid hxr
          clear hx hxr hcell
          by_cases hv2 : v = 2
          · subst hv2
            have HS2 := Lib.hid (show SetOk σ x from by
              rcases hvs with h | ⟨h, _⟩ | ⟨_, h⟩
              · omega
              · omega
              · exact h)
            clear hvs
            go_wp2
            exact ⟨⟨k + 1, by go_num, by omega, K, HSR, HKR, Lib.hid (AllNum.snoc HOK.out HX.out HS2.out)⟩, by simp only [intOf]; omega⟩
          · clear hvs
            by_cases hno : NodeOk σ x
            · obtain ⟨f, hf, rfl⟩ := hno
              have hfl := (HSR.out.ok.g f hf).1
              have hSz := Support_any f HSR.out.sp.ar ⟨hf, hfl⟩
              unfold Blks.val at hSz
              have HSZ := Lib.hid hSz
              have HF := Lib.hid hf
              have HISET := Lib.hid (isSet_iff HSR.out.ok.wf hfl)
              clear hSz hf hfl
              go_upto_region 19 with ((with_reducible refine HSZ.out.mono ?_); rintro e W2 ⟨v2, L, rfl, ho2, hm2, hl2, hb2⟩; have HS2 := Lib.hid (HSR.out.below hb2); have HK2 := Lib.hid (HKR.out.trans (HSR.out.kept hb2)); have HO2 := Lib.hid (And.intro ho2 hm2); obtain ⟨A2, c2, hv2e, _⟩ := owns_form ho2; subst hv2e; clear hb2 ho2 hm2)
              have c0 := HS2.out.sp.c0
              have c1 := HS2.out.sp.c1
              go_wp2
              go_loop [75] (fun i => ∃ j : Nat, i = .int .i64 j ∧ j ≤ L.length ∧ Hid (∀ y ∈ L.take j, y % 2 = 0)) (fun i => L.length - (intOf i).toNat)
              case atStart => exact ⟨0, rfl, by omega, Lib.hid (by simp)⟩
              case round =>
                obtain ⟨j, rfl, hj, HEV⟩ := hrel
                by_cases hjl : j < L.length
                · have hI2 : (j : Int) < (L.length : Int) := by omega
                  obtain ⟨y, hy⟩ : ∃ y, L[j]? = some y := ⟨_, List.getElem?_eq_getElem hjl⟩
                  obtain ⟨i0, i2, ir, rfl⟩ := (HO2.out.2 y).1 (List.mem_of_getElem? hy)
                  obtain ⟨A3, c3, hv3, hA3⟩ := owns_form HO2.out.1
                  injection hv3 with hP3 hlq hcq
                  subst hP3 hcq
                  clear hlq
                  obtain ⟨g2, rfl⟩ := hA3 (by omega)
                  have hcy : W2.cell? ⟨g2, j, none⟩ = some (.int .i64 (((nd (σ.know K).N i0).v : Nat) : Int)) := (HO2.out.1.cellAt j (by omega)).trans (icell hy)
                  have HY := Lib.hid hy
                  have HI := Lib.hid (And.intro i2 ir)
                  clear hy i2 ir hA3
                  generalize hnv : (nd (σ.know K).N i0).v = n at *
                  by_cases ho : n % 2 = 1
                  · have ht : (n : Int).tmod 2 = 1 := by rw [Int.tmod_eq_emod_of_nonneg (by omega)]; omega
                    have HO := Lib.hid (And.intro ho hnv)
                    clear ho hnv
                    go_wp2
                    go_ret
                    refine ⟨K, HS2.out, HK2.out, .inr ⟨rfl, fun h => ?_⟩⟩
                    obtain ⟨g', g1, g3, g4⟩ := h.2 _ (List.mem_of_getElem? HX.out)
                    have : g' = f := by omega
                    subst this
                    have := HISET.out.1 g4 i0 HI.out.1 HI.out.2
                    have := HO.out
                    omega
                  · have ht : (n : Int).tmod 2 = 0 := by rw [Int.tmod_eq_emod_of_nonneg (by omega)]; omega
                    have HE := Lib.hid (show (n : Int) % 2 = 0 by omega)
                    clear ho hnv
                    go_wp2
                    exact ⟨⟨j + 1, by go_num, by omega, Lib.hid (AllNum.snoc (P := fun y => y % 2 = 0) HEV.out HY.out HE.out)⟩, by simp only [intOf]; omega⟩
                · obtain rfl : j = L.length := by omega
                  have hI2 : ¬ (L.length : Int) < (L.length : Int) := by omega
                  have hkx := key_i64 HR.out
                  have HST := Lib.hid (show IsSet σ.N f from HISET.out.2 fun i i2 ir => by
                    have h1 := (HO2.out.2 ((nd (σ.know K).N i).v : Int)).2 ⟨i, i2, ir, rfl⟩
                    have h2 := HEV.out
                    rw [List.take_length] at h2
                    have := h2 _ h1
                    omega)
                  clear HEV
                  go_wp2_with (refine wpList_mapAt rfl _ _ _ 65 3 rfl i64_keyed Try.underlying65 rfl (show MapAt _ _ W2 _ _ from HS2.out.sp.known) (.int .i64 f) (.int .i64 2) _ rfl rfl hkx ?_; intro w3 hm3 hg3; obtain ⟨p1, p2⟩ := HS2.out.knows hm3 hg3 ⟨f, HF.out, rfl, .inr ⟨rfl, HST.out⟩⟩; have P1 := Lib.hid p1; have P2 := Lib.hid (HK2.out.trans p2); clear p1 p2 hm3 hg3)
                  exact ⟨⟨k + 1, by go_num, by omega, _, P1, P2, Lib.hid (AllNum.snoc HOK.out HX.out ⟨f, HF.out, rfl, HST.out⟩)⟩, by simp only [intOf]; omega⟩
            · have hSz := Support_no x HSR.out.sp.ar HR.out (fun g hg e => hno ⟨g, hg, e⟩)
              unfold Blks.val at hSz
              have HSZ := Lib.hid hSz
              have HNO := Lib.hid hno
              clear hSz hno
              go_wp2_with ((with_reducible refine HSZ.out.mono ?_); rintro e W2 ⟨rfl, hb2⟩; have HS2 := Lib.hid (HSR.out.below hb2); have HK2 := Lib.hid (HKR.out.trans (HSR.out.kept hb2)); clear hb2)
              go_ret
              exact ⟨K, HS2.out, HK2.out, .inr ⟨rfl, fun h => HNO.out (by obtain ⟨g, g1, g2, _⟩ := h.2 x (List.mem_of_getElem? HX.out); exact ⟨g, g1, g2⟩)⟩⟩
        · obtain rfl : k = sets.length := by omega
          have hI : ¬ (sets.length : Int) < (sets.length : Int) := by omega
          have HN2 := Lib.hid (show ∀ y ∈ sets, SetOk σ y by have := HOK.out; rw [List.take_length] at this; exact this)
          clear HOK
          go_wp2
          go_ret
          exact ⟨K, HSR.out, HKR.out, .inl ⟨rfl, HN.out, HN2.out⟩⟩
end Go.Proofs.Ytcchiagclhkieaa

/-
  What a space asks its arena of two sets.
-/
namespace Go.Proofs.Ytcchiagclhkieaa
open Go Go.RowKit Go.ChangeMaps Go.MapKept Go.Maps Go.Lib Go.Sort

/-- A function of headers: it hangs on no variable of the bits behind. -/
def SetF (F : Fun) : Prop := ∀ v, v % 2 = 1 → Free F v
theorem Den.setOk {σ : Sg} {g : Nat} {F : Fun} (h : Den σ g F) (s : SetF F) : SetOk σ (g : Int) := ⟨g, h.1, rfl, by
  unfold IsSet
  rw [show (fun s => ev σ.N s g) = F from funext h.2]
  exact s⟩
theorem Den.nodeOk {σ : Sg} {g : Nat} {F : Fun} (h : Den σ g F) : NodeOk σ (g : Int) := ⟨g, h.1, rfl⟩
theorem SetOk.den {σ : Sg} {x : Int} (h : SetOk σ x) : ∃ (g : Nat) (F : Fun), x = g ∧ Den σ g F ∧ SetF F := by
  obtain ⟨g, h1, h2, h3⟩ := h
  exact ⟨g, fun s => ev σ.N s g, h2, ⟨h1, fun _ => rfl⟩, h3⟩
theorem NodeOk.den {σ : Sg} {x : Int} (h : NodeOk σ x) : ∃ (g : Nat) (F : Fun), x = g ∧ Den σ g F := by
  obtain ⟨g, h1, h2⟩ := h
  exact ⟨g, fun s => ev σ.N s g, h2, h1, fun _ => rfl⟩
theorem Den.known {σ : Sg} {g : Nat} {F : Fun} (h : Den σ g F) (K : List (Value × Value)) : Den (σ.know K) g F := h
theorem Den.lt64 {Mo : Nat} {σ : Sg} {g : Nat} {F : Fun} (h : Den σ g F) (o : SgOk Mo σ) : g < 2147483647 ∧ (g : Int) ≤ 2147483646 := by
  have := (o.g g h.1).1
  have := o.le
  omega
theorem To.know (σ : Sg) (K : List (Value × Value)) : To 0 0 σ (σ.know K) := ⟨Ext.refl _, Nat.le_refl _, Nat.le_refl _, fun _ h => h, fun _ h => h⟩
theorem ChRes.form {w w' : World} {B S km : Nat} {A : Blks} {Mo : Nat} {σ : Sg} {sets nodes : List Int} {e : Ending} (h : ChRes w B S km A Mo σ sets nodes e w') : ∃ c : Int, e = .returned (.int .i64 c) := by
  obtain ⟨_, _, _, ⟨rfl, _⟩ | ⟨rfl, _⟩⟩ := h
  · exact ⟨_, rfl⟩
  · exact ⟨_, rfl⟩
theorem ChRes.yes {w w' : World} {B S km : Nat} {A : Blks} {Mo : Nat} {σ : Sg} {sets nodes : List Int} {e : Ending} (h : ChRes w B S km A Mo σ sets nodes e w') (ok : AllNum σ sets nodes) : e = .returned (.int .i64 0) ∧ ∃ K, SpOk w' B S km A Mo (σ.know K) ∧ KeptS A km w w' := by
  obtain ⟨K, h1, h2, ⟨h3, _⟩ | ⟨_, h3⟩⟩ := h
  · exact ⟨h3, K, h1, h2⟩
  · exact absurd ok h3
theorem ChRes.no {w w' : World} {B S km : Nat} {A : Blks} {Mo : Nat} {σ : Sg} {sets nodes : List Int} {e : Ending} (h : ChRes w B S km A Mo σ sets nodes e w') (ok : ¬ AllNum σ sets nodes) : e = .returned (.int .i64 1) ∧ ∃ K, SpOk w' B S km A Mo (σ.know K) ∧ KeptS A km w w' := by
  obtain ⟨K, h1, h2, ⟨_, h3⟩ | ⟨h3, _⟩⟩ := h
  · exact absurd h3 ok
  · exact ⟨h3, K, h1, h2⟩
/-- Numbers laid in a fresh block. -/
theorem RowI.fresh {w : World} {B S km : Nat} {A : Blks} {Mo : Nat} {σ : Sg} (h : SpOk w B S km A Mo σ) (l : List Int) (hl : ∀ x ∈ l, -9223372036854775808 ≤ x ∧ x ≤ 9223372036854775807) (c : Nat) :
    RowI A km (w.alloc (.cells (l.map (Value.int .i64)).toArray 3)) (.slice (some ⟨w.heap.size, 0, none⟩) l.length c) l := by
  refine ⟨⟨_, c, rfl, fun i x hx => ⟨w.heap.size, rfl, ?_, h.sp.ar.foreign_new (below1 w _) (Nat.le_refl _) (by simp), ?_⟩⟩, hl⟩
  · have hb := blk1 w (.cells (l.map (Value.int .i64)).toArray 3)
    rw [cell_of_row _ _ i _ _ (0, 0) hb]
    simp [hx]
  · have := h.sp.fk.1
    omega
/-- checked, of numbers in a fresh block. -/
theorem SpOk.check {w : World} {B S km : Nat} {A : Blks} {Mo : Nat} {σ : Sg} (h : SpOk w B S km A Mo σ) (l : List Int) (hl : ∀ x ∈ l, -9223372036854775808 ≤ x ∧ x ≤ 9223372036854775807) (hn : l.length ≤ 1000) :
    Calls Try.prog 19 #[.pointer (some ⟨S, 0, none⟩), .slice (some ⟨w.heap.size, 0, none⟩) l.length l.length, .slice none 0 0] (w.alloc (.cells (l.map (Value.int .i64)).toArray 3)) (fun e w' => ChRes w B S km A Mo σ l [] e w') := by
  have hb := below1 w (.cells (l.map (Value.int .i64)).toArray 3)
  refine (checked_any (h.below hb) _ _ l [] (RowI.fresh h l hl _) (RowI.nil _ _ _) hn (by simp)).mono ?_
  rintro e w' ⟨K, h1, h2, h3⟩
  exact ⟨K, h1, (h.kept hb).trans h2, h3⟩
section
variable {w : World} {B S km : Nat} {A : Blks} {Mo : Nat} {σ : Sg}
set_option maxRecDepth 100000
set_option maxHeartbeats 1000000
theorem two_yes (h : SpOk w B S km A Mo σ) {fid : FuncId} {ts cs : Array Value} {Post : World → Ending → World → Prop} (hf : ∀ (r : Ending) (W W' : World), Post W r W' → ∃ q c : Int, r = .returned (.tuple #[.int .i64 q, .int .i64 c]))
    (en : ∀ (args : Array Value) (w : World), (callFunc fid args).run Try.prog w = .ok (.enter fid args) w) (x y : Int) (hx : -9223372036854775808 ≤ x ∧ x ≤ 9223372036854775807) (hy : -9223372036854775808 ≤ y ∧ y ≤ 9223372036854775807) (ok : AllNum σ [x, y] [])
    (hcall : ∀ (K : List (Value × Value)) (W : World), SpOk W B S km A Mo (σ.know K) → KeptS A km w W → Calls Try.prog fid (ts ++ (#[.int .i64 x, .int .i64 y] ++ cs)) W (Post W)) :
    Calls Try.prog 58 #[.pointer (some ⟨S, 0, none⟩), .int .i64 x, .int .i64 y, .func (.func fid) ts cs] w fun e w' => ∃ (K : List (Value × Value)) (W : World), SpOk W B S km A Mo (σ.know K) ∧ KeptS A km w W ∧ Post W e w' := by
  have hck := h.check [x, y] (by simp; exact ⟨hx, hy⟩) (by simp)
  have hck : Calls Try.prog 19 #[.pointer (some ⟨S, 0, none⟩), .slice (some ⟨w.heap.size, 0, none⟩) 2 2, .slice none 0 0] (w.alloc (.cells #[.int .i64 x, .int .i64 y] 3)) (fun e w' => ChRes w B S km A Mo σ [x, y] [] e w') := hck
  have HCK := Lib.hid hck
  have HCALL := Lib.hid hcall
  have HF := Lib.hid hf
  clear hck hcall hf h hx hy
  go_enter Try.func58, Try.ntmps58
  go_wp2_with ((with_reducible refine HCK.out.mono ?_); rintro e W2 hr; obtain ⟨he, K, hs2, hk2⟩ := hr.yes ok; subst he; have HS2 := Lib.hid hs2; have HK2 := Lib.hid hk2; clear hr hs2 hk2)
  refine (HCALL.out K W2 HS2.out HK2.out).mono ?_
  rintro e W3 hp
  have HP := Lib.hid hp
  obtain ⟨q, c, rfl⟩ := HF.out _ _ _ hp
  clear hp
  go_wp2
  go_ret2
  exact ⟨K, W2, HS2.out, HK2.out, HP.out⟩
theorem two_no (h : SpOk w B S km A Mo σ) {fv : Value} (x y : Int) (hx : -9223372036854775808 ≤ x ∧ x ≤ 9223372036854775807) (hy : -9223372036854775808 ≤ y ∧ y ≤ 9223372036854775807) (ok : ¬ AllNum σ [x, y] []) :
    Calls Try.prog 58 #[.pointer (some ⟨S, 0, none⟩), .int .i64 x, .int .i64 y, fv] w fun e w' => e = .returned (.tuple #[.int .i64 0, .int .i64 1]) ∧ ∃ K, SpOk w' B S km A Mo (σ.know K) ∧ KeptS A km w w' := by
  have hck := h.check [x, y] (by simp; exact ⟨hx, hy⟩) (by simp)
  have hck : Calls Try.prog 19 #[.pointer (some ⟨S, 0, none⟩), .slice (some ⟨w.heap.size, 0, none⟩) 2 2, .slice none 0 0] (w.alloc (.cells #[.int .i64 x, .int .i64 y] 3)) (fun e w' => ChRes w B S km A Mo σ [x, y] [] e w') := hck
  have HCK := Lib.hid hck
  clear hck h hx hy
  go_enter Try.func58, Try.ntmps58
  go_wp2_with ((with_reducible refine HCK.out.mono ?_); rintro e W2 hr; obtain ⟨he, hs2⟩ := hr.no ok; subst he; have HS2 := Lib.hid hs2; clear hr hs2)
  go_ret2
  exact ⟨rfl, HS2.out⟩
/-- What a call on a space comes to that refuses its numbers. -/
def SpNo (w : World) (B S km : Nat) (A : Blks) (Mo : Nat) (σ : Sg) (e : Ending) (w' : World) : Prop := e = .returned (.tuple #[.int .i64 0, .int .i64 1]) ∧ ∃ K, SpOk w' B S km A Mo (σ.know K) ∧ KeptS A km w w'
theorem SpRes.known {w W w' : World} {F : Fun} {k m : Nat} {e : Ending} {K : List (Value × Value)} (h : SpRes W B S km A Mo (σ.know K) F k m e w') (hk : KeptS A km w W) : SpRes w B S km A Mo σ F k m e w' := by
  have := h.after (To.know σ K) hk
  simpa using this
theorem allOk2 {f g : Nat} {F G : Fun} (hf : Den σ f F) (hg : Den σ g G) (sf : SetF F) (sg : SetF G) : AllNum σ [(f : Int), (g : Int)] [] := ⟨by simp, by
  intro x hx
  simp at hx
  rcases hx with rfl | rfl
  · exact hf.setOk sf
  · exact hg.setOk sg⟩
theorem relAnd_yes (h : SpOk w B S km A Mo σ) {f g : Nat} {F G : Fun} (hf : Den σ f F) (hg : Den σ g G) (sf : SetF F) (sg : SetF G) {a b : Nat} (hgr : Grow σ.N σ.H (fun s => F s && G s) a b) (hl : σ.N.length + a ≤ 2147483647) :
    Calls Try.prog 32 #[.pointer (some ⟨S, 0, none⟩), .int .i64 f, .int .i64 g] w (SpRes w B S km A Mo σ (fun s => F s && G s) a b) := by
  have hfl := hf.lt64 h.ok
  have hgl := hg.lt64 h.ok
  have c0 := h.sp.c0
  have htwo := Lib.hid (two_yes (fid := 18) (ts := #[.pointer (some ⟨A.a, 0, none⟩)]) (cs := #[]) (Post := fun W e w' => ∃ K, SpRes W B S km A Mo (σ.know K) (fun s => F s && G s) a b e w') h (fun r W W' ⟨K, hr⟩ => hr.form) (fun _ _ => by go_simp) f g (by omega) (by omega) (allOk2 hf hg sf sg)
    (fun K W hs _ => (hs.and (hf.known K) (hg.known K) hgr hl).mono fun e w' hr => ⟨K, hr⟩))
  clear h hf hg sf sg hgr hl
  go_enter Try.func32, Try.ntmps32
  go_wp2_with ((with_reducible refine htwo.out.mono ?_); rintro e W2 ⟨K, W, hs, hk, K2, hr⟩; have HR := Lib.hid (hr.known hk); obtain ⟨q, c, rfl⟩ := hr.form; clear hs hk hr)
  go_ret2
  exact HR.out
end
end Go.Proofs.Ytcchiagclhkieaa

/-
  What a space makes of sets and relations (written by wip/gen/genrf1.py).
-/
namespace Go.Proofs.Ytcchiagclhkieaa
open Go Go.RowKit Go.ChangeMaps Go.MapKept Go.Maps Go.Lib Go.Sort

section
variable {w : World} {B S km : Nat} {A : Blks} {Mo : Nat} {σ : Sg}
set_option maxRecDepth 100000
set_option maxHeartbeats 1000000
def I64 (x : Int) : Prop := -9223372036854775808 ≤ x ∧ x ≤ 9223372036854775807
theorem SpOk.check1 (h : SpOk w B S km A Mo σ) (x : Int) (hx : I64 x) :
    Calls Try.prog 19 #[.pointer (some ⟨S, 0, none⟩), .slice (some ⟨w.heap.size, 0, none⟩) 1 1, .slice none 0 0] (w.alloc (.cells #[.int .i64 x] 3)) (fun e w' => ChRes w B S km A Mo σ [x] [] e w') := h.check [x] (by simp; exact hx) (by simp)
/-- checked, of relations. -/
theorem SpOk.checkN (h : SpOk w B S km A Mo σ) (l : List Int) (hl : ∀ x ∈ l, I64 x) (hn : l.length ≤ 1000) :
    Calls Try.prog 19 #[.pointer (some ⟨S, 0, none⟩), .slice none 0 0, .slice (some ⟨w.heap.size, 0, none⟩) l.length l.length] (w.alloc (.cells (l.map (Value.int .i64)).toArray 3)) (fun e w' => ChRes w B S km A Mo σ [] l e w') := by
  have hb := below1 w (.cells (l.map (Value.int .i64)).toArray 3)
  refine (checked_any (h.below hb) _ _ [] l (RowI.nil _ _ _) (RowI.fresh h l hl _) (by simp) hn).mono ?_
  rintro e w' ⟨K, h1, h2, h3⟩
  exact ⟨K, h1, (h.kept hb).trans h2, h3⟩
theorem SpOk.checkN1 (h : SpOk w B S km A Mo σ) (x : Int) (hx : I64 x) :
    Calls Try.prog 19 #[.pointer (some ⟨S, 0, none⟩), .slice none 0 0, .slice (some ⟨w.heap.size, 0, none⟩) 1 1] (w.alloc (.cells #[.int .i64 x] 3)) (fun e w' => ChRes w B S km A Mo σ [] [x] e w') := h.checkN [x] (by simp; exact hx) (by simp)
theorem SpOk.checkN2 (h : SpOk w B S km A Mo σ) (x y : Int) (hx : I64 x) (hy : I64 y) :
    Calls Try.prog 19 #[.pointer (some ⟨S, 0, none⟩), .slice none 0 0, .slice (some ⟨w.heap.size, 0, none⟩) 2 2] (w.alloc (.cells #[.int .i64 x, .int .i64 y] 3)) (fun e w' => ChRes w B S km A Mo σ [] [x, y] e w') := h.checkN [x, y] (by simp; exact ⟨hx, hy⟩) (by simp)
/-- checked, of a set and a relation. -/
theorem SpOk.checkB (h : SpOk w B S km A Mo σ) (x y : Int) (hx : I64 x) (hy : I64 y) :
    Calls Try.prog 19 #[.pointer (some ⟨S, 0, none⟩), .slice (some ⟨w.heap.size, 0, none⟩) 1 1, .slice (some ⟨w.heap.size + 1, 0, none⟩) 1 1] ((w.alloc (.cells #[.int .i64 x] 3)).alloc (.cells #[.int .i64 y] 3)) (fun e w' => ChRes w B S km A Mo σ [x] [y] e w') := by
  have hb := below1 w (.cells #[.int .i64 x] 3)
  have h1 := h.below hb
  have hb2 := below1 (w.alloc (.cells #[.int .i64 x] 3)) (.cells #[.int .i64 y] 3)
  have hs : (w.alloc (.cells #[.int .i64 x] 3)).heap.size = w.heap.size + 1 := by simp
  have r1 : RowI A km (w.alloc (.cells #[.int .i64 x] 3)) (.slice (some ⟨w.heap.size, 0, none⟩) 1 1) [x] := RowI.fresh h [x] (by simp; exact hx) 1
  have r2 : RowI A km ((w.alloc (.cells #[.int .i64 x] 3)).alloc (.cells #[.int .i64 y] 3)) (.slice (some ⟨(w.alloc (.cells #[.int .i64 x] 3)).heap.size, 0, none⟩) 1 1) [y] := RowI.fresh h1 [y] (by simp; exact hy) 1
  rw [hs] at r2
  refine (checked_any (h1.below hb2) _ _ [x] [y] (r1.kept (h1.kept hb2)) r2 (by simp) (by simp)).mono ?_
  rintro e w' ⟨K, h3, h4, h5⟩
  exact ⟨K, h3, (h.kept hb).trans ((h1.kept hb2).trans h4), h5⟩
theorem allOk1 {f : Nat} {F : Fun} (hf : Den σ f F) (sf : SetF F) : AllNum σ [(f : Int)] [] := ⟨by simp, by
  intro x hx
  simp at hx
  subst hx
  exact hf.setOk sf⟩
theorem allOkB {r a : Nat} {R F : Fun} (hr : Den σ r R) (ha : Den σ a F) (sa : SetF F) : AllNum σ [(a : Int)] [(r : Int)] := ⟨by
  intro x hx
  simp at hx
  subst hx
  exact hr.nodeOk, by
  intro x hx
  simp at hx
  subst hx
  exact ha.setOk sa⟩
theorem allOkN1 {r : Nat} {R : Fun} (hr : Den σ r R) : AllNum σ [] [(r : Int)] := ⟨by
  intro x hx
  simp at hx
  subst hx
  exact hr.nodeOk, by simp⟩
theorem allOkN2 {r q : Nat} {R Q : Fun} (hr : Den σ r R) (hq : Den σ q Q) : AllNum σ [] [(r : Int), (q : Int)] := ⟨by
  intro x hx
  simp at hx
  rcases hx with rfl | rfl
  · exact hr.nodeOk
  · exact hq.nodeOk, by simp⟩
theorem relAnd_no (h : SpOk w B S km A Mo σ) (x y : Int) (hx : I64 x) (hy : I64 y) (ok : ¬ AllNum σ [x, y] []) :
    Calls Try.prog 32 #[.pointer (some ⟨S, 0, none⟩), .int .i64 x, .int .i64 y] w (SpNo w B S km A Mo σ) := by
  have c0 := h.sp.c0
  have HCK := Lib.hid (fun fv => two_no (fv := fv) h x y hx hy ok)
  clear h
  go_enter Try.func32, Try.ntmps32
  go_wp2_with ((with_reducible refine (HCK.out _).mono ?_); rintro e W2 ⟨rfl, hs2⟩; have HS2 := Lib.hid hs2; clear hs2)
  go_ret2
  exact ⟨rfl, HS2.out⟩
theorem relOr_no (h : SpOk w B S km A Mo σ) (x y : Int) (hx : I64 x) (hy : I64 y) (ok : ¬ AllNum σ [x, y] []) :
    Calls Try.prog 28 #[.pointer (some ⟨S, 0, none⟩), .int .i64 x, .int .i64 y] w (SpNo w B S km A Mo σ) := by
  have c0 := h.sp.c0
  have HCK := Lib.hid (fun fv => two_no (fv := fv) h x y hx hy ok)
  clear h
  go_enter Try.func28, Try.ntmps28
  go_wp2_with ((with_reducible refine (HCK.out _).mono ?_); rintro e W2 ⟨rfl, hs2⟩; have HS2 := Lib.hid hs2; clear hs2)
  go_ret2
  exact ⟨rfl, HS2.out⟩
theorem relLess_no (h : SpOk w B S km A Mo σ) (x y : Int) (hx : I64 x) (hy : I64 y) (ok : ¬ AllNum σ [x, y] []) :
    Calls Try.prog 33 #[.pointer (some ⟨S, 0, none⟩), .int .i64 x, .int .i64 y] w (SpNo w B S km A Mo σ) := by
  have hb := below1 w (.cells #[.pointer (some ⟨S, 0, none⟩)] 22)
  have kb := cell0 (blk1 w (.cells #[.pointer (some ⟨S, 0, none⟩)] 22))
  have HK := Lib.hid (h.kept hb)
  have HCK := Lib.hid (fun fv => two_no (fv := fv) (h.below hb) x y hx hy ok)
  clear h hb
  go_enter Try.func33, Try.ntmps33
  go_wp2_with ((with_reducible refine (HCK.out _).mono ?_); rintro e W2 ⟨rfl, K, hs2, hk2⟩; have HS2 := Lib.hid hs2; have HK2 := Lib.hid hk2; clear hs2 hk2)
  go_ret2
  exact ⟨rfl, K, HS2.out, HK.out.trans HK2.out⟩
theorem relOr_yes (h : SpOk w B S km A Mo σ) {f g : Nat} {F G : Fun} (hf : Den σ f F) (hg : Den σ g G) (sf : SetF F) (sg : SetF G) {a b : Nat} (hgr : Grow σ.N σ.H (fun s => F s || G s) a b) (hl : σ.N.length + a ≤ 2147483647) :
    Calls Try.prog 28 #[.pointer (some ⟨S, 0, none⟩), .int .i64 f, .int .i64 g] w (SpRes w B S km A Mo σ (fun s => F s || G s) a b) := by
  have hfl := hf.lt64 h.ok
  have hgl := hg.lt64 h.ok
  have c0 := h.sp.c0
  have htwo := Lib.hid (two_yes (fid := 59) (ts := #[.pointer (some ⟨A.a, 0, none⟩)]) (cs := #[]) (Post := fun W e w' => ∃ K, SpRes W B S km A Mo (σ.know K) (fun s => F s || G s) a b e w') h (fun r W W' ⟨K, hr⟩ => hr.form) (fun _ _ => by go_simp) f g (by omega) (by omega) (allOk2 hf hg sf sg)
    (fun K W hs _ => (hs.or (hf.known K) (hg.known K) hgr hl).mono fun e w' hr => ⟨K, hr⟩))
  clear h hf hg sf sg hgr hl
  go_enter Try.func28, Try.ntmps28
  go_wp2_with ((with_reducible refine htwo.out.mono ?_); rintro e W2 ⟨K, W, hs, hk, K2, hr⟩; have HR := Lib.hid (hr.known hk); obtain ⟨q, c, rfl⟩ := hr.form; clear hs hk hr)
  go_ret2
  exact HR.out
theorem less1 (h : SpOk w B S km A Mo σ) {f g : Nat} {F G : Fun} (hf : Den σ f F) (hg : Den σ g G) {bx : Nat} (hb : w.cell? ⟨bx, 0, none⟩ = some (.pointer (some ⟨S, 0, none⟩))) {a b : Nat} (hgr : Grow σ.N σ.H (fun s => F s && !G s) a b) (hl : σ.N.length + a ≤ 2147483647) :
    Calls Try.prog 67 #[.int .i64 f, .int .i64 g, .pointer (some ⟨bx, 0, none⟩)] w (SpRes w B S km A Mo σ (fun s => F s && !G s) a b) := by
  have c0 := h.sp.c0
  have e : (fun s => F s && !G s) = fun s => if G s then false else F s := funext fun s => by cases F s <;> cases G s <;> rfl
  rw [e] at hgr ⊢
  have hite := Lib.hid (show Calls Try.prog 40 #[.pointer (some ⟨A.a, 0, none⟩), .int .i64 g, .int .i64 0, .int .i64 f] w (SpRes w B S km A Mo σ (fun s => if G s then false else F s) a b) from h.ite hg (Den.zero h.ok) hf hgr hl)
  clear h hf hg hgr hl e
  go_enter Try.func67, Try.ntmps67
  go_wp2_with ((with_reducible refine hite.out.mono ?_); rintro e W2 hr; have HR := Lib.hid hr; obtain ⟨q, c, rfl⟩ := hr.form; clear hr)
  go_ret2
  exact HR.out
theorem relLess_yes (h : SpOk w B S km A Mo σ) {f g : Nat} {F G : Fun} (hf : Den σ f F) (hg : Den σ g G) (sf : SetF F) (sg : SetF G) {a b : Nat} (hgr : Grow σ.N σ.H (fun s => F s && !G s) a b) (hl : σ.N.length + a ≤ 2147483647) :
    Calls Try.prog 33 #[.pointer (some ⟨S, 0, none⟩), .int .i64 f, .int .i64 g] w (SpRes w B S km A Mo σ (fun s => F s && !G s) a b) := by
  have hfl := hf.lt64 h.ok
  have hgl := hg.lt64 h.ok
  have hb := below1 w (.cells #[.pointer (some ⟨S, 0, none⟩)] 22)
  have kb := blk1 w (.cells #[.pointer (some ⟨S, 0, none⟩)] 22)
  have cb := cell0 kb
  have hkb := h.kept hb
  have hfo := h.sp.ar.foreign_new hb (Nat.le_refl _) (lt_of_block kb)
  have hfk := h.sp.fk.1
  have htwo := Lib.hid (two_yes (fid := 67) (ts := #[]) (cs := #[.pointer (some ⟨w.heap.size, 0, none⟩)]) (Post := fun W e w' => ∃ K, SpRes W B S km A Mo (σ.know K) (fun s => F s && !G s) a b e w') (h.below hb) (fun r W W' ⟨K, hr⟩ => hr.form) (fun _ _ => by go_simp) f g (by omega) (by omega) (allOk2 hf hg sf sg)
    (fun K W hs hk => (less1 hs (hf.known K) (hg.known K) (cell0 ((hk.same _ hfo (by omega)).1.trans kb)) hgr hl).mono fun e w' hr => ⟨K, hr⟩))
  have HK := Lib.hid hkb
  clear h hf hg sf sg hgr hl hb kb hkb hfo hfk
  go_enter Try.func33, Try.ntmps33
  go_wp2_with ((with_reducible refine htwo.out.mono ?_); rintro e W2 ⟨K, W, hs, hk, K2, hr⟩; have HR := Lib.hid (hr.known (HK.out.trans hk)); obtain ⟨q, c, rfl⟩ := hr.form; clear hs hk hr)
  go_ret2
  exact HR.out
theorem relNot_yes (h : SpOk w B S km A Mo σ) {f : Nat} {F : Fun} (hf : Den σ f F) (sf : SetF F) {a b : Nat} (hgr : Grow σ.N σ.H (fun s => !F s) a b) (hl : σ.N.length + a ≤ 2147483647) :
    Calls Try.prog 8 #[.pointer (some ⟨S, 0, none⟩), .int .i64 f] w (SpRes w B S km A Mo σ (fun s => !F s) a b) := by
  have hfl := hf.lt64 h.ok
  have HCK := Lib.hid (h.check1 f (by unfold I64; omega))
  have HOP := Lib.hid (fun (K : List (Value × Value)) (W : World) (hs : SpOk W B S km A Mo (σ.know K)) => hs.not (hf.known K) hgr hl)
  have OK := Lib.hid (allOk1 hf sf)
  clear h hf sf hgr hl
  go_enter Try.func8, Try.ntmps8
  go_upto_region 2 with ((with_reducible refine HCK.out.mono ?_); rintro e W2 hr; obtain ⟨he, K, hs2, hk2⟩ := hr.yes OK.out; subst he; have HS2 := Lib.hid hs2; have HK2 := Lib.hid hk2; clear hr hs2 hk2)
  have c0 := HS2.out.sp.c0
  have HO := Lib.hid (HOP.out K W2 HS2.out)
  clear HOP
  go_wp2_with ((with_reducible refine HO.out.mono ?_); rintro e W3 hr; have HR := Lib.hid (hr.known HK2.out); obtain ⟨q, c, rfl⟩ := hr.form; clear hr)
  go_ret2
  exact HR.out
theorem relNot_no (h : SpOk w B S km A Mo σ) (x : Int) (hx : I64 x) (ok : ¬ AllNum σ [x] []) :
    Calls Try.prog 8 #[.pointer (some ⟨S, 0, none⟩), .int .i64 x] w (SpNo w B S km A Mo σ) := by
  have HCK := Lib.hid (h.check1 x hx)
  clear h
  go_enter Try.func8, Try.ntmps8
  go_wp2_with ((with_reducible refine HCK.out.mono ?_); rintro e W2 hr; obtain ⟨he, hs2⟩ := hr.no ok; subst he; have HS2 := Lib.hid hs2; clear hr hs2)
  go_ret2
  exact ⟨rfl, HS2.out⟩
end
end Go.Proofs.Ytcchiagclhkieaa

/-
  A rule's set (written by wip/gen/genfr2.py).
-/
namespace Go.Proofs.Ytcchiagclhkieaa
open Go Go.RowKit Go.ChangeMaps Go.MapKept Go.Maps Go.Lib Go.Sort

/-- The first k of a rule's asks. -/
def ruleK (r : RuleV) : Nat → Fun
  | 0 => fun _ => true
  | k + 1 => fun s => ruleK r k s && askF r k s
def asksN (r : RuleV) : Nat := if 0 ≤ r.proto then 5 else 4
def ruleF (r : RuleV) : Fun := ruleK r (asksN r)
theorem SetF.lit {F : Fun} {x : Nat} (hx : x % 2 = 0) (b : Bool) (h : SetF F) : SetF (litF x b F) := fun v hv s c => by
  unfold litF
  rw [put_other (by omega), h v hv]
theorem SetF.step {F : Fun} {x : Nat} (hx : x % 2 = 0) (up b : Bool) (h : SetF F) : SetF (stepF x up b F) := fun v hv s c => by
  unfold stepF
  rw [put_other (by omega), h v hv]
theorem SetF.const (b : Bool) : SetF (fun _ => b) := fun v _ => Free.const b v
theorem SetF.op2 {F G : Fun} (o : Bool → Bool → Bool) (a : SetF F) (b : SetF G) : SetF (fun s => o (F s) (G s)) := fun v hv => (a v hv).op2 o (b v hv)
theorem SetF.op1 {F : Fun} (o : Bool → Bool) (a : SetF F) : SetF (fun s => o (F s)) := fun v hv => (a v hv).op1 o
theorem bitsF_set (a n v : Nat) : ∀ m, SetF (bitsF a 0 n v m)
  | 0 => SetF.const true
  | m + 1 => SetF.lit (by omega) _ (bitsF_set a n v m)
theorem reachF_set (a n v : Nat) (up : Bool) : ∀ m, SetF (reachF a n v up m)
  | 0 => SetF.const true
  | m + 1 => SetF.step (by omega) _ _ (reachF_set a n v up m)
theorem spanF_set (a n lo hi : Nat) : SetF (spanF a n lo hi) := (reachF_set a n lo true n).op2 (fun x y => x && y) (reachF_set a n hi false n)
theorem askF_set (r : RuleV) : ∀ k, SetF (askF r k)
  | 0 => bitsF_set _ _ _ _
  | 1 => bitsF_set _ _ _ _
  | 2 => spanF_set _ _ _ _
  | 3 => spanF_set _ _ _ _
  | _ + 4 => spanF_set _ _ _ _
theorem ruleK_set (r : RuleV) : ∀ k, SetF (ruleK r k)
  | 0 => SetF.const true
  | k + 1 => (ruleK_set r k).op2 (fun x y => x && y) (askF_set r k)
theorem Try.infoFn0 : (Try.prog.info? 113).map (fun i => (i.zero, i.size, i.bytes)) = some (some .nilFunc, 1, 8) := by kernel_rfl
def askV (sb rb : Nat) : Nat → Value
  | 0 => .func (.func 60) #[] #[.pointer (some ⟨sb, 0, none⟩), .pointer (some ⟨rb, 0, none⟩)]
  | 1 => .func (.func 62) #[] #[.pointer (some ⟨sb, 0, none⟩), .pointer (some ⟨rb, 0, none⟩)]
  | 2 => .func (.func 63) #[] #[.pointer (some ⟨sb, 0, none⟩), .pointer (some ⟨rb, 0, none⟩)]
  | 3 => .func (.func 65) #[] #[.pointer (some ⟨sb, 0, none⟩), .pointer (some ⟨rb, 0, none⟩)]
  | _ => .func (.func 66) #[] #[.pointer (some ⟨sb, 0, none⟩), .pointer (some ⟨rb, 0, none⟩)]
section
variable {w : World} {B S km : Nat} {A : Blks} {Mo : Nat} {σ : Sg}
set_option maxRecDepth 100000
set_option maxHeartbeats 4000000
/-- An ask, whichever it is. -/
theorem ask_yes (r : RuleV) (ok : RuleOk r) (sb rb k : Nat) (hk : k < asksN r) : ∃ fid, askV sb rb k = .func (.func fid) #[] #[.pointer (some ⟨sb, 0, none⟩), .pointer (some ⟨rb, 0, none⟩)] ∧ (∀ (args : Array Value) (w : World), (callFunc fid args).run Try.prog w = .ok (.enter fid args) w) ∧
    ∀ (w : World) (τ : Sg), SpOk w B S km A Mo τ → AskBox w S sb rb r → τ.N.length + 1216 ≤ 2147483647 → Calls Try.prog fid #[.pointer (some ⟨sb, 0, none⟩), .pointer (some ⟨rb, 0, none⟩)] w (SpRes w B S km A Mo τ (askF r k) 1216 1216) := by
  have h5 : asksN r ≤ 5 := by unfold asksN; split <;> omega
  obtain rfl | rfl | rfl | rfl | rfl : k = 0 ∨ k = 1 ∨ k = 2 ∨ k = 3 ∨ k = 4 := by omega
  · exact ⟨_, rfl, fun _ _ => by go_simp, fun w τ h hb hl => ask0_yes h r ok sb rb hb hl⟩
  · exact ⟨_, rfl, fun _ _ => by go_simp, fun w τ h hb hl => ask1_yes h r ok sb rb hb hl⟩
  · exact ⟨_, rfl, fun _ _ => by go_simp, fun w τ h hb hl => ask2_yes h r ok sb rb hb hl⟩
  · exact ⟨_, rfl, fun _ _ => by go_simp, fun w τ h hb hl => ask3_yes h r ok sb rb hb hl⟩
  · have hp : 0 ≤ r.proto := by unfold asksN at hk; split at hk <;> omega
    exact ⟨_, rfl, fun _ _ => by go_simp, fun w τ h hb hl => ask4_yes h r ok hp sb rb hb hl⟩
theorem rule_yes (h : SpOk w B S km A Mo σ) (r : RuleV) (ok : RuleOk r) (K : Nat) (hK : ∀ k, k ≤ 5 → Wid (ruleK r k) K) (hl : σ.N.length + 5 * (1216 + K) ≤ 2147483647) :
    Calls Try.prog 31 #[.pointer (some ⟨S, 0, none⟩), .agg #[.bool r.permit, .int .i64 r.proto, .int .u32 r.sa, .int .i64 r.sn, .int .u32 r.da, .int .i64 r.dn, .int .u32 r.sl, .int .u32 r.sh, .int .u32 r.dl, .int .u32 r.dh]] w
      (SpRes w B S km A Mo σ (ruleF r) (5 * (1216 + K)) (5 * (1216 + K))) := by
  obtain ⟨i0, hif, hz0, hz1, hz2⟩ := info_parts Try.infoFn0
  have hW : (w.alloc (.cells #[.pointer (some ⟨S, 0, none⟩)] 22)).alloc (.cells #[.bool r.permit, .int .i64 r.proto, .int .u32 r.sa, .int .i64 r.sn, .int .u32 r.da, .int .i64 r.dn, .int .u32 r.sl, .int .u32 r.sh, .int .u32 r.dl, .int .u32 r.dh] 47) = (w.alloc (.cells #[.pointer (some ⟨S, 0, none⟩)] 22)).alloc (.cells #[.bool r.permit, .int .i64 r.proto, .int .u32 r.sa, .int .i64 r.sn, .int .u32 r.da, .int .i64 r.dn, .int .u32 r.sl, .int .u32 r.sh, .int .u32 r.dl, .int .u32 r.dh] 47) := rfl
  have hbw := below2 w (.cells #[.pointer (some ⟨S, 0, none⟩)] 22) (.cells #[.bool r.permit, .int .i64 r.proto, .int .u32 r.sa, .int .i64 r.sn, .int .u32 r.da, .int .i64 r.dn, .int .u32 r.sl, .int .u32 r.sh, .int .u32 r.dl, .int .u32 r.dh] 47)
  have hs1 : (w.alloc (.cells #[.pointer (some ⟨S, 0, none⟩)] 22)).heap.size = w.heap.size + 1 := by simp
  have hks := blk_below (below1 (w.alloc (.cells #[.pointer (some ⟨S, 0, none⟩)] 22)) (.cells #[.bool r.permit, .int .i64 r.proto, .int .u32 r.sa, .int .i64 r.sn, .int .u32 r.da, .int .i64 r.dn, .int .u32 r.sl, .int .u32 r.sh, .int .u32 r.dl, .int .u32 r.dh] 47)) (blk1 w (.cells #[.pointer (some ⟨S, 0, none⟩)] 22))
  have hkr := blk1 (w.alloc (.cells #[.pointer (some ⟨S, 0, none⟩)] 22)) (.cells #[.bool r.permit, .int .i64 r.proto, .int .u32 r.sa, .int .i64 r.sn, .int .u32 r.da, .int .i64 r.dn, .int .u32 r.sl, .int .u32 r.sh, .int .u32 r.dl, .int .u32 r.dh] 47)
  rw [hs1] at hkr
  have HSZ : Hid (((w.alloc (.cells #[.pointer (some ⟨S, 0, none⟩)] 22)).alloc (.cells #[.bool r.permit, .int .i64 r.proto, .int .u32 r.sa, .int .i64 r.sn, .int .u32 r.da, .int .i64 r.dn, .int .u32 r.sl, .int .u32 r.sh, .int .u32 r.dl, .int .u32 r.dh] 47)).heap.size = w.heap.size + 1 + 1) := Lib.hid (by simp)
  have HAB := Lib.hid (show AskBox _ S w.heap.size (w.heap.size + 1) r from ⟨hks, hkr⟩)
  have HF1 := Lib.hid (h.sp.ar.foreign_new hbw (Nat.le_refl _) (lt_of_block hks))
  have HF2 := Lib.hid (h.sp.ar.foreign_new hbw (show w.heap.size ≤ w.heap.size + 1 by omega) (lt_of_block hkr))
  have HNE : Hid (w.heap.size ≠ km ∧ w.heap.size + 1 ≠ km) := Lib.hid (by have := h.sp.fk.1; omega)
  have HS := Lib.hid (h.below hbw)
  have HK := Lib.hid (h.kept hbw)
  have HWK := Lib.hid hK
  have HOK := Lib.hid ok
  have c1 : ((w.alloc (.cells #[.pointer (some ⟨S, 0, none⟩)] 22)).alloc (.cells #[.bool r.permit, .int .i64 r.proto, .int .u32 r.sa, .int .i64 r.sn, .int .u32 r.da, .int .i64 r.dn, .int .u32 r.sl, .int .u32 r.sh, .int .u32 r.dl, .int .u32 r.dh] 47)).cell? ⟨w.heap.size + 1, 1, none⟩ = some (.int .i64 r.proto) := cell_of_row _ _ 1 _ _ (0, 0) hkr
  clear h hbw hks hkr hs1 hK ok hW
  go_enter Try.func31, Try.ntmps31
  go_upto_region 1 with fail
  generalize (w.alloc (.cells #[.pointer (some ⟨S, 0, none⟩)] 22)).alloc (.cells #[.bool r.permit, .int .i64 r.proto, .int .u32 r.sa, .int .i64 r.sn, .int .u32 r.da, .int .i64 r.dn, .int .u32 r.sl, .int .u32 r.sh, .int .u32 r.dl, .int .u32 r.dh] 47) = w0 at *
  have HROW := Lib.hid (show (w0.alloc (.cells #[askV w.heap.size (w.heap.size + 1) 0, askV w.heap.size (w.heap.size + 1) 1, askV w.heap.size (w.heap.size + 1) 2, askV w.heap.size (w.heap.size + 1) 3] 113)).ownsRow w0.heap.size 113 1 (.slice (some ⟨w0.heap.size, 0, none⟩) 4 4) 4 [askV w.heap.size (w.heap.size + 1) 0, askV w.heap.size (w.heap.size + 1) 1, askV w.heap.size (w.heap.size + 1) 2, askV w.heap.size (w.heap.size + 1) 3] from
    World.ownsRow_lit w0 #[askV w.heap.size (w.heap.size + 1) 0, askV w.heap.size (w.heap.size + 1) 1, askV w.heap.size (w.heap.size + 1) 2, askV w.heap.size (w.heap.size + 1) 3] 4 (Nat.le_refl _) (by unfold maxLen; omega) rfl)
  have HB1 := Lib.hid (below1 w0 (.cells #[askV w.heap.size (w.heap.size + 1) 0, askV w.heap.size (w.heap.size + 1) 1, askV w.heap.size (w.heap.size + 1) 2, askV w.heap.size (w.heap.size + 1) 3] 113))
  have hWV : w0.alloc (.cells #[.func (.func 60) #[] #[.pointer (some ⟨w.heap.size, 0, none⟩), .pointer (some ⟨w.heap.size + 1, 0, none⟩)], .func (.func 62) #[] #[.pointer (some ⟨w.heap.size, 0, none⟩), .pointer (some ⟨w.heap.size + 1, 0, none⟩)], .func (.func 63) #[] #[.pointer (some ⟨w.heap.size, 0, none⟩), .pointer (some ⟨w.heap.size + 1, 0, none⟩)], .func (.func 65) #[] #[.pointer (some ⟨w.heap.size, 0, none⟩), .pointer (some ⟨w.heap.size + 1, 0, none⟩)]] 113) = w0.alloc (.cells #[askV w.heap.size (w.heap.size + 1) 0, askV w.heap.size (w.heap.size + 1) 1, askV w.heap.size (w.heap.size + 1) 2, askV w.heap.size (w.heap.size + 1) 3] 113) := rfl
  go_upto_region 2 with fail
  clear hWV
  generalize w0.alloc (.cells #[askV w.heap.size (w.heap.size + 1) 0, askV w.heap.size (w.heap.size + 1) 1, askV w.heap.size (w.heap.size + 1) 2, askV w.heap.size (w.heap.size + 1) 3] 113) = w1 at *
  have d1 : w1.cell? ⟨w.heap.size + 1, 1, none⟩ = some (.int .i64 r.proto) := cell_of_row _ _ 1 _ _ (0, 0) (blk_below HB1.out HAB.out.r)
  clear c1
  by_cases hp : 0 ≤ r.proto
  · have hpi : r.proto ≥ 0 := hp
    have hne : asksN r = 5 := if_pos hp
    have HN := Lib.hid hne
    have hbs := HB1.out.size
    clear hp hne
    go_upto_region 4 with (at_builtin; refine wpList_push2 (v := .slice (some ⟨w0.heap.size, 0, none⟩) 4 4) rfl _ _ 116 rfl 113 i0 _ 1 8 Try.underlying116 hif hz0 hz1 hz2 rfl (by decide) (by decide) [askV w.heap.size (w.heap.size + 1) 4] rfl rfl rfl HROW.out rfl (by intro u hu; simp at hu; subst hu; rfl) (by omega) hbs ?_; intro v2 w2 hown2 hg2 hmv2; obtain ⟨A2, c2, hv2, hA2⟩ := owns_form hown2; subst hv2; have HO2 := Lib.hid hown2; have HA2 := Lib.hid hA2; have HB2 := Lib.hid (below_grown HB1.out hbs hg2 (fun g hg => by have : some w0.heap.size = some g := hg; injection this; omega)); clear hown2 hg2 hmv2 hA2)
    clear HROW hbs
    have HS2 := Lib.hid (HS.out.below HB2.out)
    have HK2 := Lib.hid (HK.out.trans (HS.out.kept HB2.out))
    have HAB2 := Lib.hid (show AskBox w2 S w.heap.size (w.heap.size + 1) r from ⟨blk_below HB2.out HAB.out.s, blk_below HB2.out HAB.out.r⟩)
    have HG2 := Lib.hid (And.intro (((HS.out.kept HB2.out).same _ HF1.out HNE.out.1).2) (((HS.out.kept HB2.out).same _ HF2.out HNE.out.2).2))
    have HBOX : Hid (∀ W, KeptS A km w2 W → AskBox W S w.heap.size (w.heap.size + 1) r) := Lib.hid fun W hW => ⟨(hW.same _ HG2.out.1 HNE.out.1).1.trans HAB2.out.s, (hW.same _ HG2.out.2 HNE.out.2).1.trans HAB2.out.r⟩
    have HCELL : Hid (∀ k, k < 5 → ∃ g, A2 = some ⟨g, 0, none⟩ ∧ ∀ W, KeptS A km w2 W → W.cell? ⟨g, k, none⟩ = some (askV w.heap.size (w.heap.size + 1) k)) := Lib.hid fun k hk => by
      obtain ⟨g, hg⟩ := HA2.out (by omega)
      have hlg := HO2.out.lt g (by rw [hg]; rfl)
      have hgf := HS.out.sp.ar.foreign_new HB2.out hlg.1 hlg.2
      have hgk : g ≠ km := by have := HS.out.sp.fk.1; omega
      refine ⟨g, hg, fun W hW => (World.cell?_of_block (hW.same _ hgf hgk).1).trans ?_⟩
      have ho := HO2.out
      rw [hg] at ho
      refine (ho.cellAt k (by omega)).trans ?_
      obtain rfl | rfl | rfl | rfl | rfl : k = 0 ∨ k = 1 ∨ k = 2 ∨ k = 3 ∨ k = 4 := by omega
      all_goals rfl
    clear HO2 HB2 HA2 HAB HF1 HF2 HSZ HAB2 HG2 HNE HS HK
    go_wp2
    go_loopw [7, 26] (fun f i wr => ∃ k : Nat, i = .int .i64 k ∧ k ≤ 5 ∧ ∃ (q : Nat) (τ : Sg), f = .int .i64 q ∧ Hid (SpOk wr B S km A Mo τ) ∧ Hid (To (k * (1216 + K)) (k * (1216 + K)) σ τ) ∧ Hid (Den τ q (ruleK r k)) ∧ Hid (KeptS A km w2 wr)) (fun _ i _ => 5 - (intOf i).toNat)
    case atStart => exact ⟨0, rfl, by omega, 1, σ, rfl, HS2, Lib.hid (by rw [Nat.zero_mul]; exact To.refl σ), Lib.hid (Den.one HS2.out.ok), Lib.hid (KeptS.refl _ _ _)⟩
    case round =>
      obtain ⟨k, rfl, hk, q, τ, rfl, HSR, HTR, HDR, HKR⟩ := hrel
      by_cases hlt : k < 5
      · have hI : (k : Int) < 5 := by omega
        obtain ⟨g, hge, hcell⟩ := HCELL.out k hlt
        have hcl := hcell wr HKR.out
        obtain ⟨fid, hfv, hen, hcall⟩ := ask_yes (B := B) (S := S) (km := km) (A := A) (Mo := Mo) r HOK.out w.heap.size (w.heap.size + 1) k (by rw [HN.out]; exact hlt)
        rw [hfv] at hcl
        have hm1 : (k + 1) * (1216 + K) ≤ 5 * (1216 + K) := Nat.mul_le_mul_right _ (by omega)
        have hm2 : (k + 1) * (1216 + K) = k * (1216 + K) + (1216 + K) := by rw [Nat.add_mul, Nat.one_mul]
        have hnl := HTR.out.nl
        have HCL := Lib.hid (hcall wr τ HSR.out (HBOX.out wr HKR.out) (by omega))
        have HM := Lib.hid (And.intro hm1 hm2)
        clear hcell hfv hcall hm1 hm2 hnl
        subst hge
        go_upto_region 9 with ((with_reducible refine HCL.out.mono ?_); rintro e w5 hr5; obtain ⟨q5, c5, he5⟩ := hr5.form; have HR5 := Lib.hid hr5; subst he5; clear hr5)
        rcases HR5.out.two with ⟨rfl, rfl, hlt5, τ5, hs5, ht5⟩ | ⟨r5, τ5, rfl, rfl, hs5, ht5, hd5⟩
        · have HFIN := Lib.hid (SpRes.full (F := ruleF r) (HK2.out.trans (HKR.out.trans HR5.out.1)) rfl (by have := HTR.out.hl; have := HM.out; omega) hs5 ((HTR.out.trans ht5).mono (show k * (1216 + K) + 1216 ≤ 5 * (1216 + K) by have := HM.out; omega) (show k * (1216 + K) + 1216 ≤ 5 * (1216 + K) by have := HM.out; omega)))
          clear hlt5 hs5 ht5
          go_wp2
          go_ret2
          exact HFIN.out
        · have HS5 := Lib.hid hs5
          have HT5 := Lib.hid (HTR.out.trans ht5)
          have HK5 := Lib.hid (HKR.out.trans HR5.out.1)
          have hnl := HT5.out.nl
          have hm := HM.out
          have hw := HWK.out (k + 1) (by omega)
          have HAN := Lib.hid (show Calls Try.prog 32 #[.pointer (some ⟨S, 0, none⟩), .int .i64 q, .int .i64 r5] w5 (SpRes w5 B S km A Mo τ5 (ruleK r (k + 1)) K K) from relAnd_yes hs5 (HDR.out.to ht5 HSR.out.ok hs5.ok) hd5 (ruleK_set r k) (askF_set r k) (a := K) (b := K) (Grow.wid hs5.ok.wf.two hw) (by omega))
          have s0 := cell0 (HBOX.out w5 HK5.out).s
          clear hs5 ht5 hd5 HR5 HCL hnl hm hw hcl hen
          go_upto_region 12 with ((with_reducible refine HAN.out.mono ?_); rintro e w7 hr7; obtain ⟨q7, c7, he7⟩ := hr7.form; have HR7 := Lib.hid hr7; subst he7; clear hr7)
          rcases HR7.out.two with ⟨rfl, rfl, hlt7, τ7, hs7, ht7⟩ | ⟨r7, τ7, rfl, rfl, hs7, ht7, hd7⟩
          · have HFIN := Lib.hid (SpRes.full (F := ruleF r) (HK2.out.trans (HK5.out.trans HR7.out.1)) rfl (by have := HT5.out.hl; have := HM.out; omega) hs7 ((HT5.out.trans ht7).mono (show k * (1216 + K) + 1216 + K ≤ 5 * (1216 + K) by have := HM.out; omega) (show k * (1216 + K) + 1216 + K ≤ 5 * (1216 + K) by have := HM.out; omega)))
            clear hlt7 hs7 ht7
            go_wp2
            go_ret2
            exact HFIN.out
          · have HS7 := Lib.hid hs7
            have HT7 := Lib.hid ((HT5.out.trans ht7).mono (show k * (1216 + K) + 1216 + K ≤ (k + 1) * (1216 + K) by have := HM.out; omega) (show k * (1216 + K) + 1216 + K ≤ (k + 1) * (1216 + K) by have := HM.out; omega))
            have HD7 := Lib.hid hd7
            have HK7 := Lib.hid (HK5.out.trans HR7.out.1)
            clear hs7 ht7 hd7 HR7 HAN
            go_wp2
            exact ⟨⟨k + 1, by go_num, by omega, r7, τ7, rfl, HS7, HT7, HD7, HK7⟩, by simp only [intOf]; omega⟩
      · obtain rfl : k = 5 := by omega
        have hI : ¬ ((5 : Nat) : Int) < 5 := by omega
        have hfd := HDR.out
        have hrf : ruleF r = ruleK r 5 := by unfold ruleF; rw [HN.out]
        rw [← hrf] at hfd
        have HFIN : Hid (SpRes w B S km A Mo σ (ruleF r) (5 * (1216 + K)) (5 * (1216 + K)) (.returned (.tuple #[.int .i64 q, .int .i64 0])) wr) := Lib.hid ⟨HK2.out.trans HKR.out, .inr ⟨q, τ, rfl, HSR.out, HTR.out.mono (Nat.mul_le_mul_right _ (by omega)) (Nat.mul_le_mul_right _ (by omega)), hfd⟩⟩
        clear hfd hrf
        go_wp2
        go_ret2
        exact HFIN.out
  · have hpi : ¬ r.proto ≥ 0 := hp
    have hne : asksN r = 4 := if_neg hp
    have HN := Lib.hid hne
    clear hp hne
    go_upto_region 4 with fail
    obtain ⟨A2, hA2e⟩ : ∃ A2 : Option Addr, A2 = some ⟨w0.heap.size, 0, none⟩ := ⟨_, rfl⟩
    obtain ⟨c2, hc2e⟩ : ∃ c2 : Nat, c2 = 4 := ⟨_, rfl⟩
    have HO2 := HROW
    have HA2 : Hid (0 < 4 → ∃ g, some (⟨w0.heap.size, 0, none⟩ : Addr) = some ⟨g, 0, none⟩) := Lib.hid fun _ => ⟨_, rfl⟩
    have HB2 := HB1
    clear HROW HB1 d1 hA2e hc2e
    clear A2 c2
    rename World => w2
    have HS2 := Lib.hid (HS.out.below HB2.out)
    have HK2 := Lib.hid (HK.out.trans (HS.out.kept HB2.out))
    have HAB2 := Lib.hid (show AskBox w2 S w.heap.size (w.heap.size + 1) r from ⟨blk_below HB2.out HAB.out.s, blk_below HB2.out HAB.out.r⟩)
    have HG2 := Lib.hid (And.intro (((HS.out.kept HB2.out).same _ HF1.out HNE.out.1).2) (((HS.out.kept HB2.out).same _ HF2.out HNE.out.2).2))
    have HBOX : Hid (∀ W, KeptS A km w2 W → AskBox W S w.heap.size (w.heap.size + 1) r) := Lib.hid fun W hW => ⟨(hW.same _ HG2.out.1 HNE.out.1).1.trans HAB2.out.s, (hW.same _ HG2.out.2 HNE.out.2).1.trans HAB2.out.r⟩
    have HCELL : Hid (∀ k, k < 4 → ∃ g, (some (⟨w0.heap.size, 0, none⟩ : Addr)) = some ⟨g, 0, none⟩ ∧ ∀ W, KeptS A km w2 W → W.cell? ⟨g, k, none⟩ = some (askV w.heap.size (w.heap.size + 1) k)) := Lib.hid fun k hk => by
      obtain ⟨g, hg⟩ := HA2.out (by omega)
      have hlg := HO2.out.lt g (by rw [hg]; rfl)
      have hgf := HS.out.sp.ar.foreign_new HB2.out hlg.1 hlg.2
      have hgk : g ≠ km := by have := HS.out.sp.fk.1; omega
      refine ⟨g, hg, fun W hW => (World.cell?_of_block (hW.same _ hgf hgk).1).trans ?_⟩
      have ho := HO2.out
      rw [hg] at ho
      refine (ho.cellAt k (by omega)).trans ?_
      obtain rfl | rfl | rfl | rfl : k = 0 ∨ k = 1 ∨ k = 2 ∨ k = 3 := by omega
      all_goals rfl
    clear HO2 HB2 HA2 HAB HF1 HF2 HSZ HAB2 HG2 HNE HS HK
    go_wp2
    go_loopw [7, 26] (fun f i wr => ∃ k : Nat, i = .int .i64 k ∧ k ≤ 4 ∧ ∃ (q : Nat) (τ : Sg), f = .int .i64 q ∧ Hid (SpOk wr B S km A Mo τ) ∧ Hid (To (k * (1216 + K)) (k * (1216 + K)) σ τ) ∧ Hid (Den τ q (ruleK r k)) ∧ Hid (KeptS A km w2 wr)) (fun _ i _ => 4 - (intOf i).toNat)
    case atStart => exact ⟨0, rfl, by omega, 1, σ, rfl, HS2, Lib.hid (by rw [Nat.zero_mul]; exact To.refl σ), Lib.hid (Den.one HS2.out.ok), Lib.hid (KeptS.refl _ _ _)⟩
    case round =>
      obtain ⟨k, rfl, hk, q, τ, rfl, HSR, HTR, HDR, HKR⟩ := hrel
      by_cases hlt : k < 4
      · have hI : (k : Int) < 4 := by omega
        obtain ⟨g, hge, hcell⟩ := HCELL.out k hlt
        have hcl := hcell wr HKR.out
        obtain ⟨fid, hfv, hen, hcall⟩ := ask_yes (B := B) (S := S) (km := km) (A := A) (Mo := Mo) r HOK.out w.heap.size (w.heap.size + 1) k (by rw [HN.out]; exact hlt)
        rw [hfv] at hcl
        have hm1 : (k + 1) * (1216 + K) ≤ 5 * (1216 + K) := Nat.mul_le_mul_right _ (by omega)
        have hm2 : (k + 1) * (1216 + K) = k * (1216 + K) + (1216 + K) := by rw [Nat.add_mul, Nat.one_mul]
        have hnl := HTR.out.nl
        have HCL := Lib.hid (hcall wr τ HSR.out (HBOX.out wr HKR.out) (by omega))
        have HM := Lib.hid (And.intro hm1 hm2)
        clear hcell hfv hcall hm1 hm2 hnl
        obtain rfl : g = w0.heap.size := by injection hge with hge; injection hge with h1; exact h1.symm
        go_upto_region 9 with ((with_reducible refine HCL.out.mono ?_); rintro e w5 hr5; obtain ⟨q5, c5, he5⟩ := hr5.form; have HR5 := Lib.hid hr5; subst he5; clear hr5)
        rcases HR5.out.two with ⟨rfl, rfl, hlt5, τ5, hs5, ht5⟩ | ⟨r5, τ5, rfl, rfl, hs5, ht5, hd5⟩
        · have HFIN := Lib.hid (SpRes.full (F := ruleF r) (HK2.out.trans (HKR.out.trans HR5.out.1)) rfl (by have := HTR.out.hl; have := HM.out; omega) hs5 ((HTR.out.trans ht5).mono (show k * (1216 + K) + 1216 ≤ 5 * (1216 + K) by have := HM.out; omega) (show k * (1216 + K) + 1216 ≤ 5 * (1216 + K) by have := HM.out; omega)))
          clear hlt5 hs5 ht5
          go_wp2
          go_ret2
          exact HFIN.out
        · have HS5 := Lib.hid hs5
          have HT5 := Lib.hid (HTR.out.trans ht5)
          have HK5 := Lib.hid (HKR.out.trans HR5.out.1)
          have hnl := HT5.out.nl
          have hm := HM.out
          have hw := HWK.out (k + 1) (by omega)
          have HAN := Lib.hid (show Calls Try.prog 32 #[.pointer (some ⟨S, 0, none⟩), .int .i64 q, .int .i64 r5] w5 (SpRes w5 B S km A Mo τ5 (ruleK r (k + 1)) K K) from relAnd_yes hs5 (HDR.out.to ht5 HSR.out.ok hs5.ok) hd5 (ruleK_set r k) (askF_set r k) (a := K) (b := K) (Grow.wid hs5.ok.wf.two hw) (by omega))
          have s0 := cell0 (HBOX.out w5 HK5.out).s
          clear hs5 ht5 hd5 HR5 HCL hnl hm hw hcl hen
          go_upto_region 12 with ((with_reducible refine HAN.out.mono ?_); rintro e w7 hr7; obtain ⟨q7, c7, he7⟩ := hr7.form; have HR7 := Lib.hid hr7; subst he7; clear hr7)
          rcases HR7.out.two with ⟨rfl, rfl, hlt7, τ7, hs7, ht7⟩ | ⟨r7, τ7, rfl, rfl, hs7, ht7, hd7⟩
          · have HFIN := Lib.hid (SpRes.full (F := ruleF r) (HK2.out.trans (HK5.out.trans HR7.out.1)) rfl (by have := HT5.out.hl; have := HM.out; omega) hs7 ((HT5.out.trans ht7).mono (show k * (1216 + K) + 1216 + K ≤ 5 * (1216 + K) by have := HM.out; omega) (show k * (1216 + K) + 1216 + K ≤ 5 * (1216 + K) by have := HM.out; omega)))
            clear hlt7 hs7 ht7
            go_wp2
            go_ret2
            exact HFIN.out
          · have HS7 := Lib.hid hs7
            have HT7 := Lib.hid ((HT5.out.trans ht7).mono (show k * (1216 + K) + 1216 + K ≤ (k + 1) * (1216 + K) by have := HM.out; omega) (show k * (1216 + K) + 1216 + K ≤ (k + 1) * (1216 + K) by have := HM.out; omega))
            have HD7 := Lib.hid hd7
            have HK7 := Lib.hid (HK5.out.trans HR7.out.1)
            clear hs7 ht7 hd7 HR7 HAN
            go_wp2
            exact ⟨⟨k + 1, by go_num, by omega, r7, τ7, rfl, HS7, HT7, HD7, HK7⟩, by simp only [intOf]; omega⟩
      · obtain rfl : k = 4 := by omega
        have hI : ¬ ((4 : Nat) : Int) < 4 := by omega
        have hfd := HDR.out
        have hrf : ruleF r = ruleK r 4 := by unfold ruleF; rw [HN.out]
        rw [← hrf] at hfd
        have HFIN : Hid (SpRes w B S km A Mo σ (ruleF r) (5 * (1216 + K)) (5 * (1216 + K)) (.returned (.tuple #[.int .i64 q, .int .i64 0])) wr) := Lib.hid ⟨HK2.out.trans HKR.out, .inr ⟨q, τ, rfl, HSR.out, HTR.out.mono (Nat.mul_le_mul_right _ (by omega)) (Nat.mul_le_mul_right _ (by omega)), hfd⟩⟩
        clear hfd hrf
        go_wp2
        go_ret2
        exact HFIN.out
end
end Go.Proofs.Ytcchiagclhkieaa

/-
  Rules that are the same but for what they say of headers that fit.
-/
namespace Go.Proofs.Ytcchiagclhkieaa
open Go Go.RowKit Go.ChangeMaps Go.MapKept Go.Maps Go.Lib Go.Sort

theorem eqPrefD (a m b n : Int) (d : Nat) (w : World) : (Op.equalIn (d + 1 + 1) 45 (.agg #[.int .u32 a, .int .i64 m]) (.agg #[.int .u32 b, .int .i64 n])).run Try.prog w = .ok (decide (a = b) && decide (m = n)) w := by
  have hS : Try.prog.underlying 45 = some (.struct (Try.prog.fieldsOf 45)) := by kernel_rfl
  have hp : Try.prog.stoodInHeld 45 = false := by kernel_rfl
  have a1 := Try.underlying27
  have a2 := Try.isAgg27
  have a3 := Try.sizeOf27
  have b1 := Try.underlying3
  have b2 := Try.isAgg3
  have b3 := Try.sizeOf3
  by_cases h1 : a = b
  · by_cases h2 : m = n
    · subst h1 h2
      rw [run_equalIn_agg w (d + 1) 45 _ _ hS hp]
      simp only [Program.fieldsOf, Try.underlying45]
      go_simp
    · subst h1
      rw [run_equalIn_agg w (d + 1) 45 _ _ hS hp]
      simp only [Program.fieldsOf, Try.underlying45]
      go_simp
  · rw [run_equalIn_agg w (d + 1) 45 _ _ hS hp]
    simp only [Program.fieldsOf, Try.underlying45]
    go_simp
theorem eqSpanD (a m b n : Int) (d : Nat) (w : World) : (Op.equalIn (d + 1 + 1) 43 (.agg #[.int .u32 a, .int .u32 m]) (.agg #[.int .u32 b, .int .u32 n])).run Try.prog w = .ok (decide (a = b) && decide (m = n)) w := by
  have hS : Try.prog.underlying 43 = some (.struct (Try.prog.fieldsOf 43)) := by kernel_rfl
  have hp : Try.prog.stoodInHeld 43 = false := by kernel_rfl
  have a1 := Try.underlying26
  have a2 := Try.isAgg26
  have a3 := Try.sizeOf26
  by_cases h1 : a = b
  · by_cases h2 : m = n
    · subst h1 h2
      rw [run_equalIn_agg w (d + 1) 43 _ _ hS hp]
      simp only [Program.fieldsOf, Try.underlying43]
      go_simp
    · subst h1
      rw [run_equalIn_agg w (d + 1) 43 _ _ hS hp]
      simp only [Program.fieldsOf, Try.underlying43]
      go_simp
  · rw [run_equalIn_agg w (d + 1) 43 _ _ hS hp]
    simp only [Program.fieldsOf, Try.underlying43]
    go_simp
/-- The same rule. -/
def sameR (x y : RuleV) : Bool := (x.permit == y.permit) && decide (x.proto = y.proto) && (decide (x.sa = y.sa) && decide (x.sn = y.sn)) && (decide (x.da = y.da) && decide (x.dn = y.dn)) && (decide (x.sl = y.sl) && decide (x.sh = y.sh)) && (decide (x.dl = y.dl) && decide (x.dh = y.dh))
theorem eqRuleD (x y : RuleV) (w : World) : (binOp .eql 47 (.agg #[.bool x.permit, .int .i64 x.proto, .int .u32 x.sa, .int .i64 x.sn, .int .u32 x.da, .int .i64 x.dn, .int .u32 x.sl, .int .u32 x.sh, .int .u32 x.dl, .int .u32 x.dh]) (.agg #[.bool y.permit, .int .i64 y.proto, .int .u32 y.sa, .int .i64 y.sn, .int .u32 y.da, .int .i64 y.dn, .int .u32 y.sl, .int .u32 y.sh, .int .u32 y.dl, .int .u32 y.dh])).run Try.prog w = .ok (.bool (sameR x y)) w := by
  have hS : Try.prog.underlying 47 = some (.struct (Try.prog.fieldsOf 47)) := by kernel_rfl
  have hp : Try.prog.stoodInHeld 47 = false := by kernel_rfl
  have b1 := Try.underlying3
  have b2 := Try.isAgg3
  have b3 := Try.sizeOf3
  have c1 := Try.underlying4
  have c2 := Try.isAgg4
  have c3 := Try.sizeOf4
  have d2 := Try.isAgg45
  have d3 := Try.sizeOf45
  have e2 := Try.isAgg43
  have e3 := Try.sizeOf43
  rw [run_eql_struct, show (10000 : Nat) = 9997 + 1 + 1 + 1 from rfl, run_equalIn_agg w (9997 + 1 + 1) 47 _ _ hS hp]
  generalize 9997 = d
  have E1 := fun w => eqPrefD x.sa x.sn y.sa y.sn d w
  have E2 := fun w => eqPrefD x.da x.dn y.da y.dn d w
  have E3 := fun w => eqSpanD x.sl x.sh y.sl y.sh d w
  have E4 := fun w => eqSpanD x.dl x.dh y.dl y.dh d w
  simp only [Program.fieldsOf, Try.underlying47]
  unfold sameR
  generalize (decide (x.sa = y.sa) && decide (x.sn = y.sn)) = P1 at *
  generalize (decide (x.da = y.da) && decide (x.dn = y.dn)) = P2 at *
  generalize (decide (x.sl = y.sl) && decide (x.sh = y.sh)) = P3 at *
  generalize (decide (x.dl = y.dl) && decide (x.dh = y.dh)) = P4 at *
  generalize x.permit = q1 at *
  generalize y.permit = q2 at *
  by_cases hq : q1 = q2
  · subst hq
    by_cases hp2 : x.proto = y.proto
    · rw [hp2]
      have e1 : (y.proto == y.proto) = true := by simp
      cases P1
      · cases q1 <;> go_simp
      · cases P2
        · cases q1 <;> go_simp
        · cases P3
          · cases q1 <;> go_simp
          · cases P4 <;> cases q1 <;> go_simp
    · have e1 : (x.proto == y.proto) = false := by simpa using hp2
      cases q1 <;> go_simp
  · cases q1 <;> cases q2
    · exact absurd rfl hq
    · go_simp
    · go_simp
    · exact absurd rfl hq
theorem rulesEq_any (x y : RuleV) (bx : Nat) (w : World) (hb : w.heap[bx]? = some (.cells #[.bool y.permit, .int .i64 y.proto, .int .u32 y.sa, .int .i64 y.sn, .int .u32 y.da, .int .i64 y.dn, .int .u32 y.sl, .int .u32 y.sh, .int .u32 y.dl, .int .u32 y.dh] 47 (0, 0))) :
    Calls Try.prog 30 #[.agg #[.bool x.permit, .int .i64 x.proto, .int .u32 x.sa, .int .i64 x.sn, .int .u32 x.da, .int .i64 x.dn, .int .u32 x.sl, .int .u32 x.sh, .int .u32 x.dl, .int .u32 x.dh], .pointer (some ⟨bx, 0, none⟩)] w fun e w' => e = .returned (.bool (sameR x y)) ∧ Below w.heap.size w w' := by
  have hbw := below1 w (.cells #[.bool x.permit, .int .i64 x.proto, .int .u32 x.sa, .int .i64 x.sn, .int .u32 x.da, .int .i64 x.dn, .int .u32 x.sl, .int .u32 x.sh, .int .u32 x.dl, .int .u32 x.dh] 47)
  have hk := blk1 w (.cells #[.bool x.permit, .int .i64 x.proto, .int .u32 x.sa, .int .i64 x.sn, .int .u32 x.da, .int .i64 x.dn, .int .u32 x.sl, .int .u32 x.sh, .int .u32 x.dl, .int .u32 x.dh] 47)
  have hy := blk_below hbw hb
  have HEQ := eqRuleD x y
  have HB := Lib.hid hbw
  go_enter Try.func30, Try.ntmps30
  go_upto_region 1 with fail
  clear hbw
  generalize w.alloc (.cells #[.bool x.permit, .int .i64 x.proto, .int .u32 x.sa, .int .i64 x.sn, .int .u32 x.da, .int .i64 x.dn, .int .u32 x.sl, .int .u32 x.sh, .int .u32 x.dl, .int .u32 x.dh] 47) = w1 at *
  have x0 : w1.cell? ⟨w.heap.size, 0, none⟩ = some (.bool x.permit) := cell_of_row _ _ 0 _ _ (0, 0) hk
  have x1 : w1.cell? ⟨w.heap.size, 1, none⟩ = some (.int .i64 x.proto) := cell_of_row _ _ 1 _ _ (0, 0) hk
  have x2 : w1.cell? ⟨w.heap.size, 2, none⟩ = some (.int .u32 x.sa) := cell_of_row _ _ 2 _ _ (0, 0) hk
  have x3 : w1.cell? ⟨w.heap.size, 3, none⟩ = some (.int .i64 x.sn) := cell_of_row _ _ 3 _ _ (0, 0) hk
  have x4 : w1.cell? ⟨w.heap.size, 4, none⟩ = some (.int .u32 x.da) := cell_of_row _ _ 4 _ _ (0, 0) hk
  have x5 : w1.cell? ⟨w.heap.size, 5, none⟩ = some (.int .i64 x.dn) := cell_of_row _ _ 5 _ _ (0, 0) hk
  have x6 : w1.cell? ⟨w.heap.size, 6, none⟩ = some (.int .u32 x.sl) := cell_of_row _ _ 6 _ _ (0, 0) hk
  have x7 : w1.cell? ⟨w.heap.size, 7, none⟩ = some (.int .u32 x.sh) := cell_of_row _ _ 7 _ _ (0, 0) hk
  have x8 : w1.cell? ⟨w.heap.size, 8, none⟩ = some (.int .u32 x.dl) := cell_of_row _ _ 8 _ _ (0, 0) hk
  have x9 : w1.cell? ⟨w.heap.size, 9, none⟩ = some (.int .u32 x.dh) := cell_of_row _ _ 9 _ _ (0, 0) hk
  have y0 : w1.cell? ⟨bx, 0, none⟩ = some (.bool y.permit) := cell_of_row _ _ 0 _ _ (0, 0) hy
  have y1 : w1.cell? ⟨bx, 1, none⟩ = some (.int .i64 y.proto) := cell_of_row _ _ 1 _ _ (0, 0) hy
  have y2 : w1.cell? ⟨bx, 2, none⟩ = some (.int .u32 y.sa) := cell_of_row _ _ 2 _ _ (0, 0) hy
  have y3 : w1.cell? ⟨bx, 3, none⟩ = some (.int .i64 y.sn) := cell_of_row _ _ 3 _ _ (0, 0) hy
  have y4 : w1.cell? ⟨bx, 4, none⟩ = some (.int .u32 y.da) := cell_of_row _ _ 4 _ _ (0, 0) hy
  have y5 : w1.cell? ⟨bx, 5, none⟩ = some (.int .i64 y.dn) := cell_of_row _ _ 5 _ _ (0, 0) hy
  have y6 : w1.cell? ⟨bx, 6, none⟩ = some (.int .u32 y.sl) := cell_of_row _ _ 6 _ _ (0, 0) hy
  have y7 : w1.cell? ⟨bx, 7, none⟩ = some (.int .u32 y.sh) := cell_of_row _ _ 7 _ _ (0, 0) hy
  have y8 : w1.cell? ⟨bx, 8, none⟩ = some (.int .u32 y.dl) := cell_of_row _ _ 8 _ _ (0, 0) hy
  have y9 : w1.cell? ⟨bx, 9, none⟩ = some (.int .u32 y.dh) := cell_of_row _ _ 9 _ _ (0, 0) hy
  clear hk hy hb
  go_wp2
  go_ret
  exact ⟨rfl, HB.out⟩
end Go.Proofs.Ytcchiagclhkieaa

/-
  A filter's rules, one behind the other: what is left, what each decides; the rows that the walk keeps.
-/
namespace Go.Proofs.Ytcchiagclhkieaa
open Go Go.RowKit Go.ChangeMaps Go.MapKept Go.Maps Go.Lib Go.Sort

def ruleAt (L : List RuleV) (k : Nat) : Fun := fun s => (L[k]?.map fun r => ruleF r s).getD false
/-- What the first k rules leave; what rule k decides. -/
def leftF (L : List RuleV) (k : Nat) : Fun := fun s => !(L.take k).any fun r => ruleF r s
def decF (L : List RuleV) (k : Nat) : Fun := fun s => leftF L k s && ruleAt L k s
theorem ruleAt_eq {L : List RuleV} {k : Nat} {r : RuleV} (h : L[k]? = some r) : ruleAt L k = ruleF r := funext fun s => by unfold ruleAt; rw [h]; rfl
theorem leftF_succ {L : List RuleV} {k : Nat} {r : RuleV} (h : L[k]? = some r) : leftF L (k + 1) = fun s => leftF L k s && !ruleF r s := funext fun s => by
  unfold leftF
  rw [List.take_add_one, h]
  simp [List.any_append]
theorem decF_eq {L : List RuleV} {k : Nat} {r : RuleV} (h : L[k]? = some r) : decF L k = fun s => leftF L k s && ruleF r s := funext fun s => by
  unfold decF
  rw [ruleAt_eq h]
theorem leftF_set (L : List RuleV) : ∀ k, SetF (leftF L k) := by
  intro k
  induction k with
  | zero => exact SetF.const true
  | succ k ih =>
    cases h : L[k]? with
    | none =>
      have e : leftF L (k + 1) = leftF L k := by unfold leftF; rw [List.take_add_one, h]; simp
      rw [e]; exact ih
    | some r =>
      rw [leftF_succ h]
      exact ih.op2 (fun x y => x && !y) (ruleK_set r _)
theorem decF_set {L : List RuleV} {k : Nat} {r : RuleV} (h : L[k]? = some r) : SetF (decF L k) := by
  rw [decF_eq h]
  exact (leftF_set L k).op2 (fun x y => x && y) (ruleK_set r _)
/-- A rule that denies, the same otherwise. -/
def anyR (r : RuleV) : RuleV := ⟨false, r.proto, r.sa, r.sn, r.da, r.dn, r.sl, r.sh, r.dl, r.dh, r.hpr, r.hsa, r.hda, r.hsl, r.hsh, r.hdl, r.hdh⟩
theorem askF_any (r : RuleV) : ∀ k, askF (anyR r) k = askF r k
  | 0 => rfl
  | 1 => rfl
  | 2 => rfl
  | 3 => rfl
  | _ + 4 => rfl
theorem ruleK_any (r : RuleV) : ∀ k, ruleK (anyR r) k = ruleK r k
  | 0 => rfl
  | k + 1 => by
    show (fun s => ruleK (anyR r) k s && askF (anyR r) k s) = fun s => ruleK r k s && askF r k s
    rw [ruleK_any r k, askF_any]
theorem ruleF_any (r : RuleV) : ruleF (anyR r) = ruleF r := ruleK_any r _
theorem sameR_eq {x y : RuleV} (h : sameR x y = true) : x = y := by
  unfold sameR at h
  simp only [Bool.and_eq_true, decide_eq_true_eq, beq_iff_eq] at h
  obtain ⟨⟨⟨⟨⟨h1, h2⟩, h3, h4⟩, h5, h6⟩, h7, h8⟩, h9, h10⟩ := h
  cases x; cases y
  simp only at h1 h2 h3 h4 h5 h6 h7 h8 h9 h10
  subst h1 h2 h3 h4 h5 h6 h7 h8 h9 h10
  rfl
/-- Nodes in a row. -/
def ncl (ns : List Nat) : List Value := ns.map fun (n : Nat) => Value.int .i64 (n : Int)
/-- The row's block is none of the space's. -/
def OwnF (A : Blks) (km S : Nat) (w : World) (v : Value) : Prop := ∀ g, v.ownBlock = some g → Foreign A w g ∧ g ≠ km ∧ g ≠ S
/-- A list that came in, in a block that is none of the space's. -/
def RdF (A : Blks) (km : Nat) (w : World) (k : Nat) (v : Value) (n : Nat) (xs : List Value) : Prop :=
  ∃ (P : Option Addr) (c : Nat), v = .slice P n c ∧ n ≤ c ∧ xs.length = n * k ∧ (0 < n → ∃ b off, P = some ⟨b, off, none⟩ ∧ Foreign A w b ∧ b ≠ km ∧ ∀ j u, xs[j]? = some u → w.cell? ⟨b, off + j, none⟩ = some u)
theorem RdF.rd {A : Blks} {km : Nat} {w : World} {k : Nat} {v : Value} {n : Nat} {xs : List Value} (h : RdF A km w k v n xs) : Rd w w.heap.size k v n xs := by
  obtain ⟨P, c, h1, h2, h3, h4⟩ := h
  exact ⟨P, c, h1, h2, h3, fun hn => by obtain ⟨b, off, e, f, _, g⟩ := h4 hn; exact ⟨b, off, e, f.1, g⟩⟩
theorem RdF.kept {A : Blks} {km : Nat} {w w' : World} {k : Nat} {v : Value} {n : Nat} {xs : List Value} (h : RdF A km w k v n xs) (hk : KeptS A km w w') : RdF A km w' k v n xs := by
  obtain ⟨P, c, h1, h2, h3, h4⟩ := h
  refine ⟨P, c, h1, h2, h3, fun hn => ?_⟩
  obtain ⟨b, off, e, f, f2, g⟩ := h4 hn
  exact ⟨b, off, e, (hk.same b f f2).2, f2, fun j u hu => (World.cell?_of_block (hk.same b f f2).1).trans (g j u hu)⟩
section
variable {w0 wr : World} {B S km : Nat} {A : Blks} {Mo : Nat} {τ : Sg}
/-- The space where blocks of others turned. -/
theorem SpOk.others {w w' : World} (h : SpOk w B S km A Mo τ) {r : Option Nat} (hg : w.grownBy w' r) (hr : ∀ g, r = some g → Foreign A w g ∧ g ≠ km ∧ g ≠ S) :
    SpOk w' B S km A Mo τ ∧ (∀ k, Foreign A w k → Foreign A w' k) ∧ ∀ k, w.heap.size ≤ k → k < w'.heap.size → Foreign A w' k ∧ k ≠ km ∧ k ≠ S := by
  obtain ⟨nv, hA⟩ := h.sp.ar
  obtain ⟨a1, a2, a3⟩ := hA.calm hg.size fun k hk hn => hg.block k hk (fun e => hn (hr k e.symm).1)
  have hkm := h.sp.fk.1
  have hS := lt_of_block h.sp.cells
  exact ⟨⟨⟨⟨nv, a1⟩, (hg.block S hS (fun e => (hr S e.symm).2.2 rfl)).trans h.sp.cells, a2 _ h.sp.fs, h.sp.known.same (hg.block km hkm (fun e => (hr km e.symm).2.1 rfl)), a2 _ h.sp.fk, h.sp.ne⟩, h.ok⟩, a2, fun k h1 h2 => ⟨a3 k h1 h2, by omega, by omega⟩⟩
theorem KeptS.others {w w' w0 : World} (h : KeptS A km w0 w) {r : Option Nat} (hg : w.grownBy w' r) (hs : ∀ g, r = some g → w0.heap.size ≤ g) (hf : ∀ k, Foreign A w k → Foreign A w' k) : KeptS A km w0 w' :=
  ⟨hg.os.trans h.os, hg.tape.trans h.tape, hg.output.trans h.output, Nat.le_trans h.size hg.size, fun k hk hn => ⟨(hg.block k (Nat.lt_of_lt_of_le hk.1 h.size) (fun e => by have := hs k e.symm; have := hk.1; omega)).trans (h.same k hk hn).1, hf k (h.same k hk hn).2⟩⟩
/-- What the walk of the rules keeps: the space, the row of what is decided, the row of the rules that were seen. -/
structure RuSt (w0 wr : World) (B S km : Nat) (A : Blks) (Mo : Nat) (τ : Sg) (ov : Value) (ns : List Nat) (sv : Value) (D : List RuleV) : Prop where
  sp : SpOk wr B S km A Mo τ
  kept : KeptS A km w0 wr
  out : wr.ownsRow w0.heap.size 3 1 ov ns.length (ncl ns)
  outf : OwnF A km S wr ov
  seen : wr.ownsRow w0.heap.size 47 10 sv D.length (rcells D)
  seenf : OwnF A km S wr sv
  dis : ∀ g, ov.ownBlock = some g → sv.ownBlock ≠ some g
theorem RuSt.space {ov sv : Value} {ns : List Nat} {D : List RuleV} {w' : World} {τ' : Sg} (h : RuSt w0 wr B S km A Mo τ ov ns sv D) (k : KeptS A km wr w') (s : SpOk w' B S km A Mo τ') : RuSt w0 w' B S km A Mo τ' ov ns sv D :=
  ⟨s, h.kept.trans k, owns_like h.out fun g hg => (k.same g (h.outf g hg).1 (h.outf g hg).2.1).1, fun g hg => ⟨(k.same g (h.outf g hg).1 (h.outf g hg).2.1).2, (h.outf g hg).2⟩,
    owns_like h.seen fun g hg => (k.same g (h.seenf g hg).1 (h.seenf g hg).2.1).1, fun g hg => ⟨(k.same g (h.seenf g hg).1 (h.seenf g hg).2.1).2, (h.seenf g hg).2⟩, h.dis⟩
theorem RuSt.below {ov sv : Value} {ns : List Nat} {D : List RuleV} {w' : World} (h : RuSt w0 wr B S km A Mo τ ov ns sv D) (hb : Below wr.heap.size wr w') : RuSt w0 w' B S km A Mo τ ov ns sv D := h.space (h.sp.kept hb) (h.sp.below hb)
theorem RuSt.start (h : SpOk w0 B S km A Mo τ) : RuSt w0 w0 B S km A Mo τ (.slice none 0 0) [] (.slice none 0 0) [] :=
  ⟨h, KeptS.refl _ _ _, World.ownsRow_nil _ _ _ _, fun g hg => by simp [Value.ownBlock] at hg, World.ownsRow_nil _ _ _ _, fun g hg => by simp [Value.ownBlock] at hg, fun g hg => by simp [Value.ownBlock] at hg⟩
theorem OwnF.pushed {w w' : World} {v v' : Value} (h : OwnF A km S w v) (hf : ∀ k, Foreign A w k → Foreign A w' k) (hn : ∀ k, w.heap.size ≤ k → k < w'.heap.size → Foreign A w' k ∧ k ≠ km ∧ k ≠ S) (hm : Moved v v' w.heap.size) (hl : ∀ g, v'.ownBlock = some g → g < w'.heap.size) : OwnF A km S w' v' := fun g hg => by
  rcases hm with hm | hm
  · have := h g (by rw [← hm]; exact hg)
    exact ⟨hf g this.1, this.2⟩
  · exact hn g (hm g hg) (hl g hg)
theorem RuSt.pushOut {ov sv ov' : Value} {ns : List Nat} {D : List RuleV} {w' : World} {n : Nat} (h : RuSt w0 wr B S km A Mo τ ov ns sv D) (ho : w'.ownsRow w0.heap.size 3 1 ov' (ns.length + 1) (ncl ns ++ [.int .i64 (n : Int)])) (hg : wr.grownBy w' ov.ownBlock) (hm : Moved ov ov' wr.heap.size) :
    RuSt w0 w' B S km A Mo τ ov' (ns ++ [n]) sv D := by
  obtain ⟨s1, s2, s3⟩ := h.sp.others hg h.outf
  have hk := h.kept.others hg (fun g hg => (h.out.lt g hg).1) s2
  have hsame : ∀ g, sv.ownBlock = some g → w'.heap[g]? = wr.heap[g]? := fun g hgs => hg.block g (h.seen.lt g hgs).2 (fun e => h.dis g e.symm hgs)
  refine ⟨s1, hk, ?_, h.outf.pushed s2 s3 hm (fun g hg => (ho.lt g hg).2), owns_like h.seen hsame, fun g hgs => ⟨s2 g (h.seenf g hgs).1, (h.seenf g hgs).2⟩, fun g hgo hgs => ?_⟩
  · rw [List.length_append]
    have e : ncl (ns ++ [n]) = ncl ns ++ [.int .i64 (n : Int)] := by simp [ncl]
    rw [e]
    exact ho
  · rcases hm with hm | hm
    · exact h.dis g (by rw [← hm]; exact hgo) hgs
    · have := hm g hgo
      have := (h.seen.lt g hgs).2
      omega
theorem RuSt.pushSeen {ov sv sv' : Value} {ns : List Nat} {D : List RuleV} {w' : World} {r : RuleV} (h : RuSt w0 wr B S km A Mo τ ov ns sv D) (ho : w'.ownsRow w0.heap.size 47 10 sv' (D.length + 1) (rcells D ++ r.enc)) (hg : wr.grownBy w' sv.ownBlock) (hm : Moved sv sv' wr.heap.size) :
    RuSt w0 w' B S km A Mo τ ov ns sv' (D ++ [r]) := by
  obtain ⟨s1, s2, s3⟩ := h.sp.others hg h.seenf
  have hk := h.kept.others hg (fun g hg => (h.seen.lt g hg).1) s2
  have hsame : ∀ g, ov.ownBlock = some g → w'.heap[g]? = wr.heap[g]? := fun g hgo => hg.block g (h.out.lt g hgo).2 (fun e => h.dis g hgo e.symm)
  refine ⟨s1, hk, owns_like h.out hsame, fun g hgo => ⟨s2 g (h.outf g hgo).1, (h.outf g hgo).2⟩, ?_, h.seenf.pushed s2 s3 hm (fun g hg => (ho.lt g hg).2), fun g hgo hgs => ?_⟩
  · rw [List.length_append]
    have e : rcells (D ++ [r]) = rcells D ++ r.enc := by simp [rcells]
    rw [e]
    exact ho
  · rcases hm with hm | hm
    · exact h.dis g hgo (by rw [← hm]; exact hgs)
    · have := hm g hgs
      have := (h.out.lt g hgo).2
      omega
end
end Go.Proofs.Ytcchiagclhkieaa

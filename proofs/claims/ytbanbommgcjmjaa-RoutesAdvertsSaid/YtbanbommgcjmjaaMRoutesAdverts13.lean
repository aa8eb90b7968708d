/-
  Joined texts: Ra17, Ra19, LawRtAd.
-/
import Derived.Test.YtbanbommgcjmjaaMRoutesAdverts10
import Derived.Test.YtbanbommgcjmjaaMRoutesAdverts12
import Derived.Test.YtbanbommgcjmjaaMRoutesAdverts11
import Derived.Test.YtbanbommgcjmjaaMRoutesAdverts8
/-
  The row of adverts that is spoiled; what lies elsewhere stays; no program.
-/
namespace Go.Proofs.Ytbanbommgcjmjaa
open Go Go.RowKit Go.Lib Go.Sort

/-- Outside of the zone, and of what is new, all is as it was. -/
structure Out (lo hi : Nat) (W w : World) : Prop where
  os : w.os = W.os
  tape : w.tape = W.tape
  output : w.output = W.output
  size : W.heap.size ≤ w.heap.size
  out : ∀ b, b < W.heap.size → (b < lo ∨ hi ≤ b) → w.heap[b]? = W.heap[b]?
section
variable {lo hi n : Nat} {W w w' : World} {v : Value} {R : List AdX}
theorem Out.refl (W : World) : Out lo hi W W := ⟨rfl, rfl, rfl, Nat.le_refl _, fun _ _ _ => rfl⟩
theorem Out.step (h : Out lo hi W w) (hs : Stp lo hi W.heap.size w w') : Out lo hi W w' :=
  ⟨hs.os.trans h.os, hs.tape.trans h.tape, hs.output.trans h.output, Nat.le_trans h.size hs.size, fun b hb hz => (hs.out b (Nat.lt_of_lt_of_le hb h.size) (by omega)).trans (h.out b hb hz)⟩
theorem Out.turned {g : Nat} (h : Out lo hi W w) (hg : w.grownBy w' (some g)) (hl : lo ≤ g) (hz : g < hi ∨ W.heap.size ≤ g) : Out lo hi W w' :=
  ⟨hg.os.trans h.os, hg.tape.trans h.tape, hg.output.trans h.output, Nat.le_trans h.size hg.size, fun b hb hzb => (hg.block b (Nat.lt_of_lt_of_le hb h.size) (fun e => by injection e with e; omega)).trans (h.out b hb hzb)⟩
theorem Out.grown {g : Option Nat} (h : Out lo hi W w) (hg : w.grownBy w' g) (hz : ∀ k, g = some k → lo ≤ k ∧ (k < hi ∨ W.heap.size ≤ k)) : Out lo hi W w' :=
  ⟨hg.os.trans h.os, hg.tape.trans h.tape, hg.output.trans h.output, Nat.le_trans h.size hg.size, fun b hb hzb => (hg.block b (Nat.lt_of_lt_of_le hb h.size) (fun e => by have := hz b e.symm; omega)).trans (h.out b hb hzb)⟩
theorem Out.next (h : Out lo hi W w) (hb : Below w.heap.size w w') : Out lo hi W w' := h.grown (only_of_below hb none) (fun _ e => nomatch e)
theorem Out.below (h : Out lo hi W w) (hl : lo ≤ W.heap.size) : Below lo W w := ⟨h.os, h.tape, h.output, h.size, fun b hb => h.out b (Nat.lt_of_lt_of_le hb hl) (.inl hb)⟩
/-- What lies behind the zone stays. -/
theorem Rd.out {k m lim : Nat} {u : Value} {xs : List Value} (h : Rd W lim k u m xs) (hl : lim ≤ W.heap.size) (hf : ∀ j, j < hi → FarV0 j u) (ho : Out lo hi W w) : Rd w lim k u m xs := by
  obtain ⟨A, c, hv, hc, hl', hq⟩ := h
  refine ⟨A, c, hv, hc, hl', fun hn => ?_⟩
  obtain ⟨b, off, hA, hB, hcell⟩ := hq hn
  refine ⟨b, off, hA, hB, fun j x hx => ?_⟩
  have hge : hi ≤ b := (Nat.lt_or_ge b hi).elim (fun e => absurd rfl (hf b e b off m c (by rw [hv, hA]) hn)) id
  exact (World.cell?_of_block (a := ⟨b, off + j, none⟩) (ho.out b (by omega) (.inr hge))).trans (hcell j x hx)
theorem AdOk.out {lim : Nat} {x : AdX} (h : AdOk W lim x) (hl : lim ≤ W.heap.size) (hf : ∀ j, j < hi → AdFar j x) (ho : Out lo hi W w) : AdOk w lim x :=
  ⟨Rd.out h.p hl (fun j hj => (hf j hj).1) ho, Rd.out h.o hl (fun j hj => (hf j hj).2.1) ho, Rd.out h.l hl (fun j hj => (hf j hj).2.2) ho, h.b⟩
/-- The row of adverts that is spoiled: what its lists hold is not told. -/
structure SpR (lo hi : Nat) (W : World) (v : Value) (n : Nat) (R : List AdX) (w : World) : Prop where
  row : w.ownsRow lo 36 13 v n (adcells R)
  len : R.length = n
  zone : ∀ g, v.ownBlock = some g → g < hi ∨ W.heap.size ≤ g
  ls : ∀ y ∈ R, Ls3 lo hi W.heap.size w y.p y.o y.l y.v.pa.length y.v.co.length y.v.cl.length
  out : Out lo hi W w
theorem Ls3.step {S : Nat} {p o l : Value} {np no nl : Nat} (h : Ls3 lo hi S w p o l np no nl) (hs : Stp lo hi S w w') : Ls3 lo hi S w' p o l np no nl := ⟨h.p.step hs, h.o.step hs, h.l.step hs⟩
theorem SpR.step (h : SpR lo hi W v n R w) (hs : Stp lo hi W.heap.size w w') : SpR lo hi W v n R w' :=
  ⟨hs.row h.row, h.len, h.zone, fun y hy => (h.ls y hy).step hs, h.out.step hs⟩
theorem SpR.next (h : SpR lo hi W v n R w) (hb : Below w.heap.size w w') : SpR lo hi W v n R w' := h.step (Stp.new (only_of_below hb none))
theorem SpR.drew (h : SpR lo hi W v n R w) : SpR lo hi W v n R { w with drawn := w.drawn + 1 } := h.next (below_drawn w)
/-- The lists as they are handed back. -/
theorem AdOwn.ls {S : Nat} {y : AdX} (h : AdOwn lo w y) (hs : w.heap.size ≤ hi) : Ls3 lo hi S w y.p y.o y.l y.v.pa.length y.v.co.length y.v.cl.length := by
  obtain ⟨⟨x1, h1⟩, ⟨x2, h2⟩, ⟨x3, h3⟩⟩ := h
  exact ⟨⟨⟨x1, h1⟩, fun g hg => .inl (Nat.lt_of_lt_of_le (h1.lt g hg).2 hs)⟩, ⟨⟨x2, h2⟩, fun g hg => .inl (Nat.lt_of_lt_of_le (h2.lt g hg).2 hs)⟩, ⟨⟨x3, h3⟩, fun g hg => .inl (Nat.lt_of_lt_of_le (h3.lt g hg).2 hs)⟩⟩
theorem SpR.start {w2 : World} {base : Nat} {u : Value} {S : List AdX} (h : w2.ownsRow base 36 13 u S.length (adcells S)) (ho : ∀ y ∈ S, AdOwn base w2 y) (hb : Below w2.heap.size w2 W) : SpR base w2.heap.size W u S.length S W :=
  ⟨owns_kept_none h (only_of_below hb none), rfl, fun g hg => .inl (h.lt g hg).2, fun y hy => ((ho y hy).ls (Nat.le_refl _)).step (Stp.new (only_of_below hb none)), Out.refl _⟩
theorem LOwn.pos {S : Nat} {t : TypeId} {u : Value} {m : Nat} (h : LOwn lo hi S w t u m) (hm : 0 < m) : ∃ g c, u = .slice (some ⟨g, 0, none⟩) m c := by
  obtain ⟨⟨xs, ho⟩, _⟩ := h
  obtain ⟨g, c, hv, _⟩ := ho.form hm
  exact ⟨g, c, hv⟩
theorem LOwn.cell {S : Nat} {t : TypeId} {g m c k : Nat} (h : LOwn lo hi S w t (.slice (some ⟨g, 0, none⟩) m c) m) (hk : k < m) : (∃ u, w.cell? ⟨g, k, none⟩ = some u) ∧ w.frozen? ⟨g, k, none⟩ = false := by
  obtain ⟨⟨xs, ho⟩, _⟩ := h
  exact ⟨⟨_, (ho.cellAt k (by omega)).trans (List.getElem?_eq_getElem (by rw [ho.1]; omega))⟩, ho.frozenAt k⟩
end
theorem u32s_snoc {l : List Int} (h : u32s l) : u32s (l ++ [98]) := fun x hx => by
  rcases List.mem_append.1 hx with hx | hx
  · exact h x hx
  · rw [List.mem_singleton.1 hx]; omega
/-- An advert whose lists have grown by one. -/
def AvV.app (v : AvV) : AvV := { v with pa := v.pa ++ [98], co := v.co ++ [98], cl := v.cl ++ [98], hpa := u32s_snoc v.hpa, hco := u32s_snoc v.hco, hcl := u32s_snoc v.hcl }
def AdX.app (y : AdX) (A1 : Option Addr) (k1 : Nat) (A2 : Option Addr) (k2 : Nat) (A3 : Option Addr) (k3 : Nat) : AdX := ⟨y.v.app, A1, k1, A2, k2, A3, k3⟩
theorem app_lens (v : AvV) : v.app.pa.length = v.pa.length + 1 ∧ v.app.co.length = v.co.length + 1 ∧ v.app.cl.length = v.cl.length + 1 := by simp [AvV.app]
theorem app_p (y : AdX) (A1 : Option Addr) (k1 : Nat) (A2 : Option Addr) (k2 : Nat) (A3 : Option Addr) (k3 : Nat) : (y.app A1 k1 A2 k2 A3 k3).p = .slice A1 (y.v.pa.length + 1) k1 ∧ (y.app A1 k1 A2 k2 A3 k3).o = .slice A2 (y.v.co.length + 1) k2 ∧ (y.app A1 k1 A2 k2 A3 k3).l = .slice A3 (y.v.cl.length + 1) k3 := by
  simp [AdX.app, AdX.p, AdX.o, AdX.l, AvV.app]
theorem set_mid (A B D : List Value) (k : Nat) (u : Value) (hk : k < B.length) : (A ++ (B ++ D)).set (A.length + k) u = A ++ (B.set k u ++ D) := by
  rw [List.set_append_right _ _ (by omega), Nat.add_sub_cancel_left, List.set_append_left _ _ hk]
theorem adcells_app {R : List AdX} {i : Nat} {y : AdX} (h : R[i]? = some y) (A1 : Option Addr) (k1 : Nat) (A2 : Option Addr) (k2 : Nat) (A3 : Option Addr) (k3 : Nat) :
    (((adcells R).set (i * 13 + 5) (.slice A1 (y.v.pa.length + 1) k1)).set (i * 13 + 6) (.slice A2 (y.v.co.length + 1) k2)).set (i * 13 + 11) (.slice A3 (y.v.cl.length + 1) k3) = adcells (R.set i (y.app A1 k1 A2 k2 A3 k3)) := by
  obtain ⟨hi, hy⟩ := List.getElem?_eq_some_iff.1 h
  have e1 : R = R.take i ++ (y :: R.drop (i + 1)) := by rw [← hy, ← List.drop_eq_getElem_cons hi, List.take_append_drop]
  have hl : (R.take i).length = i := by simp; omega
  have hA : (adcells (R.take i)).length = i * 13 := by rw [adcells_len, hl]
  have e2 : adcells R = adcells (R.take i) ++ (y.enc ++ adcells (R.drop (i + 1))) := by
    conv => lhs; rw [e1]
    rw [adcells_append]
    rfl
  have e3 : R.set i (y.app A1 k1 A2 k2 A3 k3) = R.take i ++ (y.app A1 k1 A2 k2 A3 k3 :: R.drop (i + 1)) := by
    conv => lhs; rw [e1]
    rw [List.set_append_right _ _ (by omega), hl, Nat.sub_self, List.set_cons_zero]
  rw [e2, e3, adcells_append, ← hA, set_mid _ _ _ _ _ (by rw [ad_len]; decide), set_mid _ _ _ _ _ (by rw [List.length_set, ad_len]; decide), set_mid _ _ _ _ _ (by rw [List.length_set, List.length_set, ad_len]; decide)]
  obtain ⟨p1, p2, p3⟩ := app_p y A1 k1 A2 k2 A3 k3
  show _ = adcells (R.take i) ++ ((y.app A1 k1 A2 k2 A3 k3).enc ++ adcells (R.drop (i + 1)))
  congr 2
  unfold AdX.enc
  rw [p1, p2, p3]
  rfl
section
variable {lo hi n : Nat} {W w : World} {v : Value} {R : List AdX}
/-- The three new lists are stored. -/
theorem SpR.app {g c i : Nat} {y : AdX} {A1 : Option Addr} {k1 : Nat} {A2 : Option Addr} {k2 : Nat} {A3 : Option Addr} {k3 : Nat} (h : SpR lo hi W (.slice (some ⟨g, 0, none⟩) n c) n R w) (hy : R[i]? = some y)
    (g1 : LOwn lo hi W.heap.size w 23 (.slice A1 (y.v.pa.length + 1) k1) (y.v.pa.length + 1)) (g2 : LOwn lo hi W.heap.size w 23 (.slice A2 (y.v.co.length + 1) k2) (y.v.co.length + 1)) (g3 : LOwn lo hi W.heap.size w 24 (.slice A3 (y.v.cl.length + 1) k3) (y.v.cl.length + 1)) :
    SpR lo hi W (.slice (some ⟨g, 0, none⟩) n c) n (R.set i (y.app A1 k1 A2 k2 A3 k3)) (((w.setCell ⟨g, i * 13 + 5, none⟩ (.slice A1 (y.v.pa.length + 1) k1)).setCell ⟨g, i * 13 + 6, none⟩ (.slice A2 (y.v.co.length + 1) k2)).setCell ⟨g, i * 13 + 11, none⟩ (.slice A3 (y.v.cl.length + 1) k3)) := by
  obtain ⟨r1, t1⟩ := h.row.stored (i * 13 + 5) (.slice A1 (y.v.pa.length + 1) k1)
  obtain ⟨r2, t2⟩ := r1.stored (i * 13 + 6) (.slice A2 (y.v.co.length + 1) k2)
  obtain ⟨r3, t3⟩ := r2.stored (i * 13 + 11) (.slice A3 (y.v.cl.length + 1) k3)
  rw [adcells_app hy] at r3
  have tt := grown_trans (grown_trans t1 t2) t3
  have kl : ∀ {t : TypeId} {u : Value} {m : Nat}, LOwn lo hi W.heap.size w t u m → t ≠ 36 → LOwn lo hi W.heap.size (((w.setCell ⟨g, i * 13 + 5, none⟩ (.slice A1 (y.v.pa.length + 1) k1)).setCell ⟨g, i * 13 + 6, none⟩ (.slice A2 (y.v.co.length + 1) k2)).setCell ⟨g, i * 13 + 11, none⟩ (.slice A3 (y.v.cl.length + 1) k3)) t u m :=
    fun ⟨⟨xs, ho⟩, hz⟩ ht => ⟨⟨xs, ho.kept tt (own_apart ho h.row ht)⟩, hz⟩
  refine ⟨r3, by rw [List.length_set]; exact h.len, h.zone, fun z hz => ?_, h.out.turned tt (h.row.lt g rfl).1 (h.zone g rfl)⟩
  rcases List.mem_or_eq_of_mem_set hz with hz | hz
  · exact ⟨kl (h.ls z hz).p (by decide), kl (h.ls z hz).o (by decide), kl (h.ls z hz).l (by decide)⟩
  · subst hz
    obtain ⟨e1, e2, e3⟩ := app_p y A1 k1 A2 k2 A3 k3
    obtain ⟨l1, l2, l3⟩ := app_lens y.v
    refine ⟨?_, ?_, ?_⟩
    · rw [e1]; show LOwn _ _ _ _ _ _ y.v.app.pa.length; rw [l1]; exact kl g1 (by decide)
    · rw [e2]; show LOwn _ _ _ _ _ _ y.v.app.co.length; rw [l2]; exact kl g2 (by decide)
    · rw [e3]; show LOwn _ _ _ _ _ _ y.v.app.cl.length; rw [l3]; exact kl g3 (by decide)
/-- How long the lists from q on are. -/
def Short (q K : Nat) (R : List AdX) : Prop := ∀ j y, q ≤ j → R[j]? = some y → y.v.pa.length ≤ K ∧ y.v.co.length ≤ K ∧ y.v.cl.length ≤ K
theorem Short.later {q K : Nat} {R : List AdX} (h : Short q K R) (t : Nat) (hq : q ≤ t) : Short t K R := fun j y hj => h j y (Nat.le_trans hq hj)
theorem Short.set {q K i : Nat} {R : List AdX} {y : AdX} (h : Short q K R) (hi : i < q) : Short q K (R.set i y) := fun j z hj hz => by
  rw [List.getElem?_set_ne (by omega)] at hz
  exact h j z hj hz
end
end Go.Proofs.Ytbanbommgcjmjaa

/-
  RoutesAdverts: small things; no program.
-/
namespace Go.Proofs.Ytbanbommgcjmjaa
open Go Go.RowKit Go.Lib Go.Sort

theorem rd_takeA {w : World} {B : Nat} {A : Option Addr} {c n m : Nat} {L : List AdX} (h : Rd w B 13 (.slice A n c) n (adcells L)) (hn : L.length = n) (hm : m ≤ n) : Rd w B 13 (.slice A m c) m (adcells (L.take m)) := by
  obtain ⟨A', c', hv, hc, hl, hp⟩ := h
  injection hv with h1 h2 h3
  subst h1 h3
  have hlen : (L.take m).length = m := by simp; omega
  refine ⟨A, c, rfl, by omega, by rw [adcells_len, hlen], fun hm0 => ?_⟩
  obtain ⟨b, off, hA, hB, hcell⟩ := hp (by omega)
  refine ⟨b, off, hA, hB, fun j u hu => hcell j u ?_⟩
  have e : adcells L = adcells (L.take m) ++ adcells (L.drop m) := by rw [← adcells_append, List.take_append_drop]
  rw [e, List.getElem?_append_left (List.getElem?_eq_some_iff.1 hu).1]
  exact hu
theorem rd_next {w w' : World} {k n : Nat} {v : Value} {xs : List Value} (h : Rd w w.heap.size k v n xs) (hb : Below w.heap.size w w') : Rd w' w'.heap.size k v n xs := (h.below hb).mono hb.size
/-- The longest list that can come in. -/
def LenK (x : AdX) : Prop := x.v.pa.length ≤ 35184372087808 ∧ x.v.co.length ≤ 35184372087808 ∧ x.v.cl.length ≤ 35184372087808
theorem short_of {L : List AvV} {S : List AdX} {K : Nat} (h : SortedA L (S.map AdX.v)) (hL : ∀ v ∈ L, v.pa.length ≤ K ∧ v.co.length ≤ K ∧ v.cl.length ≤ K) : Short 0 K S := fun _ y _ hy =>
  hL y.v ((h.2 y.v).1 (List.mem_map.2 ⟨y, List.mem_of_getElem? hy, rfl⟩))
end Go.Proofs.Ytbanbommgcjmjaa

/-
  The walk of the law RoutesAdverts (written by wip/gen/genlawrtad.py).
-/
namespace Go.Proofs.Ytbanbommgcjmjaa
open Go Go.RowKit Go.Lib Go.Sort

set_option maxRecDepth 100000 in
set_option maxHeartbeats 8000000 in
theorem lawAdverts_any (L0 M0 : List AdX) (vl vm : Value) (w : World) (hl : Rd w w.heap.size 13 vl L0.length (adcells L0)) (hm : Rd w w.heap.size 13 vm M0.length (adcells M0)) (hLok : ∀ x ∈ L0, AdOk w w.heap.size x ∧ AdNil x ∧ LenK x) (hMok : ∀ x ∈ M0, AdOk w w.heap.size x) :
    Calls Try.prog 4 #[vl, vm] w fun e w' => e = .returned (.bool true) ∧ Below w.heap.size w w' := by
  obtain ⟨i0, hi, hz0, hz1, hz2⟩ := info_parts Try.infoAdvert
  obtain ⟨Al, cl, rfl, hcl⟩ := hl.form
  obtain ⟨Am, cm, rfl, hcm⟩ := hm.form
  have HL0 := Lib.hid hl
  have HM0 := Lib.hid hm
  have HLO := Lib.hid hLok
  have HMO := Lib.hid hMok
  clear hl hm hLok hMok
  go_enter Try.func4, Try.ntmps4
  go_wp2_with fail
  go_upto_region 1 with fail
  go_cut [0, 1] (fun s0 s1 wx => ∃ (n m : Nat), s0 = .slice Al n cl ∧ s1 = .slice Am m cm ∧ n ≤ L0.length ∧ n ≤ 60 ∧ m ≤ M0.length ∧ m ≤ 60 ∧ Hid (Below w.heap.size w wx))
  case first =>
    have g1 : min (L0.length : Int) 60 ≤ (cl : Int) := by omega
    have g2 : min (M0.length : Int) 60 ≤ (cm : Int) := by omega
    have g3 : (0 : Int) ≤ min (L0.length : Int) 60 := by omega
    have g4 : (0 : Int) ≤ min (M0.length : Int) 60 := by omega
    go_region
    all_goals (go_wp2_with fail; go_meet; exact ⟨(min (L0.length : Int) 60).toNat, (min (M0.length : Int) 60).toNat, rfl, rfl, by omega, by omega, by omega, by omega, (⟨rfl, rfl, rfl, Nat.le_refl _, fun _ _ => rfl⟩ : Below w.heap.size w w.drew)⟩)
  case rest =>
    obtain ⟨n, m, rfl, rfl, hnl, hn, hml, hm, HB0⟩ := hcut
    obtain ⟨L, hL⟩ : ∃ L, L = L0.take n := ⟨_, rfl⟩
    obtain ⟨M, hM⟩ : ∃ M, M = M0.take m := ⟨_, rfl⟩
    have hLn : L.length = n := by rw [hL, List.length_take]; omega
    have hMm : M.length = m := by rw [hM, List.length_take]; omega
    have hrl := rd_takeA HL0.out rfl hnl
    have hrm := rd_takeA HM0.out rfl hml
    rw [← hL] at hrl
    rw [← hM] at hrm
    subst hLn hMm
    have HL := Lib.hid hrl
    have HM := Lib.hid hrm
    have HAL : Hid (∀ x ∈ L, AdOk w w.heap.size x ∧ AdNil x ∧ LenK x) := fun x hx => HLO.out x (List.mem_of_mem_take (by rw [← hL]; exact hx))
    have HAM : Hid (∀ x ∈ M, AdOk w w.heap.size x) := fun x hx => HMO.out x (List.mem_of_mem_take (by rw [← hM]; exact hx))
    clear hrl hrm hL hM HL0 HM0 HLO HMO
    have hszc := HB0.out.size
    go_wp2_with fail
    go_loopw [5, 6] (fun v i wr => ∃ (j : Nat) (R : List AdX), i = .int .i64 j ∧ j ≤ L.length ∧ Hid (R.map AdX.v = (L.take j).map AdX.v) ∧ Hid (wr.ownsRow w.heap.size 36 13 v R.length (adcells R)) ∧ Hid (Below w.heap.size w wr) ∧ Hid (∀ y ∈ R, AdG wr v.ownBlock w.heap.size y)) (fun _ i _ => L.length - (intOf i).toNat)
    case atStart => exact ⟨0, [], rfl, by omega, (by show _ = _; simp), World.ownsRow_nil _ _ _ _, HB0, fun y hy => absurd hy (by simp)⟩
    case round =>
      obtain ⟨j, R, rfl, hj, HS, HO, HB, HAR⟩ := hrel
      rename World => wr
      have HRJ : Hid (R.length = j) := by
        have := congrArg List.length HS.out
        simp at this
        show _ = _
        omega
      have hsz := HB.out.size
      obtain ⟨A0, c0', hv0, _⟩ := owns_form HO.out
      subst hv0
      by_cases hlt : j < L.length
      · have hI : (j : Int) < (L.length : Int) := by omega
        obtain ⟨x, hx⟩ : ∃ x, L[j]? = some x := ⟨_, List.getElem?_eq_getElem hlt⟩
        have HX := Lib.hid hx
        have HXM := Lib.hid (HAL.out x (List.mem_of_getElem? hx))
        clear hx
        obtain ⟨b, off, c', hv, _, hbB, hcell⟩ := (HL.out.below HB.out).posAt (by omega)
        injection hv with hv1 _ hv3
        subst hv1 hv3
        have f0 : wr.cell? ⟨b, off + j * 13, none⟩ = some (.int .u32 x.v.a) := hcell j 0 _ (adcell HX.out rfl)
        have f1 : wr.cell? ⟨b, off + j * 13 + 1, none⟩ = some (.int .i64 x.v.m) := hcell j 1 _ (adcell HX.out rfl)
        have f2 : wr.cell? ⟨b, off + j * 13 + 2, none⟩ = some (.int .u32 x.v.ho) := hcell j 2 _ (adcell HX.out rfl)
        have f3 : wr.cell? ⟨b, off + j * 13 + 3, none⟩ = some (.int .i64 x.v.pf) := hcell j 3 _ (adcell HX.out rfl)
        have f4 : wr.cell? ⟨b, off + j * 13 + 4, none⟩ = some (.int .i64 x.v.me) := hcell j 4 _ (adcell HX.out rfl)
        have f5 : wr.cell? ⟨b, off + j * 13 + 5, none⟩ = some x.p := hcell j 5 _ (adcell HX.out rfl)
        have f6 : wr.cell? ⟨b, off + j * 13 + 6, none⟩ = some x.o := hcell j 6 _ (adcell HX.out rfl)
        have f7 : wr.cell? ⟨b, off + j * 13 + 7, none⟩ = some (.int .u32 x.v.pe) := hcell j 7 _ (adcell HX.out rfl)
        have f8 : wr.cell? ⟨b, off + j * 13 + 8, none⟩ = some (.int .u32 x.v.id) := hcell j 8 _ (adcell HX.out rfl)
        have f9 : wr.cell? ⟨b, off + j * 13 + 9, none⟩ = some (.bool x.v.ex) := hcell j 9 _ (adcell HX.out rfl)
        have f10 : wr.cell? ⟨b, off + j * 13 + 10, none⟩ = some (.int .u32 x.v.og) := hcell j 10 _ (adcell HX.out rfl)
        have f11 : wr.cell? ⟨b, off + j * 13 + 11, none⟩ = some x.l := hcell j 11 _ (adcell HX.out rfl)
        have f12 : wr.cell? ⟨b, off + j * 13 + 12, none⟩ = some (.int .i64 x.v.ss) := hcell j 12 _ (adcell HX.out rfl)
        clear hcell
        have HXO := Lib.hid ((HXM.out.1.below HB.out).mono hsz)
        go_wp2_with fail
        refine (refTwinX x wr HXO.out HXM.out.2.1).mono ?_
        rintro e w6 ⟨y, hyv, he, hyok, hyf, hb6⟩
        replace he : e = .returned (.agg #[.int .u32 y.v.a, .int .i64 y.v.m, .int .u32 y.v.ho, .int .i64 y.v.pf, .int .i64 y.v.me, y.p, y.o, .int .u32 y.v.pe, .int .u32 y.v.id, .bool y.v.ex, .int .u32 y.v.og, y.l, .int .i64 y.v.ss]) := he
        subst he
        have hown := owns_kept_none HO.out (only_of_below hb6 none)
        have HY6 : Hid (AdG w6 (Value.slice A0 R.length c0').ownBlock w.heap.size y) := ⟨hyok, fun k hk => hyf k (HO.out.lt k hk).2, fun k hk => hyf k (by omega)⟩
        have HR6 : Hid (∀ z ∈ R, AdG w6 (Value.slice A0 R.length c0').ownBlock w.heap.size z) := fun z hz => (HAR.out z hz).next hb6
        have HB6 : Hid (Below w.heap.size w w6) := HB.out.trans (hb6.mono hsz)
        have hsz6 := HB6.out.size
        have HS1 : Hid ((R ++ [y]).map AdX.v = (L.take (j + 1)).map AdX.v) := by
          show _ = _
          rw [List.take_add_one, HX.out, List.map_append, List.map_append, HS.out, List.map_cons, hyv]
          rfl
        clear hyok hyf hb6 HAR HB HO HS HXO HXM hyv f0 f1 f2 f3 f4 f5 f6 f7 f8 f9 f10 f11 f12
        go_wp2_with (at_builtin; refine wpList_pushG (v := .slice A0 R.length c0') rfl _ _ 32 rfl 36 i0 _ 13 136 Try.underlying32 hi hz0 hz1 hz2 rfl (by decide) y.enc rfl rfl (by simp) hown rfl (aenc_one _) (by have := HRJ.out; omega) (by have := HRJ.out; omega) hsz6 HB6.out (Nat.le_refl _) ?_; intro g2 c2 w2 hown2 hgr2 hlies2 hb2)
        refine ⟨⟨j + 1, R ++ [y], by go_num, by omega, HS1, ?_, hb2, ?_⟩, by simp only [intOf]; omega⟩
        · show World.ownsRow _ _ _ _ _ _ _
          rw [adcells_snoc]
          simpa using hown2
        · intro z hz
          rcases List.mem_append.1 hz with hz | hz
          · exact (HR6.out z hz).push hgr2 hlies2
          · rw [List.mem_singleton.1 hz]
            exact HY6.out.push hgr2 hlies2
      · obtain rfl : j = L.length := by omega
        have hI : ¬ (L.length : Int) < (L.length : Int) := by omega
        have hSL : R.map AdX.v = L.map AdX.v := by have := HS.out; rwa [List.take_length] at this
        have hRJ : R.length ≤ 60 := by have := HRJ.out; omega
        have HSL := Lib.hid hSL
        clear HS HRJ hSL
        go_wp2_with fail
        refine (refSortA_any L (.slice Al L.length cl) wr ((HL.out.below HB.out).mono hsz) (fun x hx => ⟨((HAL.out x hx).1.below HB.out).mono hsz, (HAL.out x hx).2.1⟩) (by omega)).mono ?_
        rintro e p1 ⟨v1, S1, rfl, hS1, hl1, own1, hg1, b1⟩
        obtain ⟨A1, c1, rfl, _⟩ := owns_form own1
        have HIN1 := Lib.hid (owns_kept_none HO.out (only_of_below b1 none))
        have HAR1 : Hid (∀ z ∈ R, AdOk p1 p1.heap.size z) := fun z hz => ((HAR.out z hz).next b1).ok
        have hwb1 := HB.out.trans (b1.mono hsz)
        clear HAR HO HB hsz
        go_wp2_with fail
        refine (progSortA_any R (.slice A0 R.length c0') p1 (Rd.of_own HIN1.out) HAR1.out (by omega)).mono ?_
        rintro e p2 ⟨v2, S2, rfl, hS2, hl2, own2, hg2, b2, how2⟩
        obtain ⟨A2, c2, rfl, hA2⟩ := owns_form own2
        go_wp2_with fail
        refine (progSortA_any R (.slice A0 R.length c0') p2 (rd_next (Rd.of_own HIN1.out) b2) (fun z hz => (HAR1.out z hz).next b2) (by omega)).mono ?_
        rintro e p3 ⟨v3, S3, rfl, hS3, hl3, own3, hg3, b3, how3⟩
        obtain ⟨A3, c3, rfl, _⟩ := owns_form own3
        have e21 : S2.map AdX.v = S1.map AdX.v := by rw [HSL.out] at hS2; exact hS2.eq hS1
        have e31 : S3.map AdX.v = S1.map AdX.v := by rw [HSL.out] at hS3; exact hS3.eq hS1
        have hsh : Short 0 35184372087808 S2 := by
          rw [HSL.out] at hS2
          refine short_of hS2 (fun v hv => ?_)
          obtain ⟨x, hx, rfl⟩ := List.mem_map.1 hv
          exact (HAL.out x hx).2.2
        have HSH := Lib.hid hsh
        have HS12 : Hid (S2.length = S1.length) := by
          have := congrArg List.length e21
          show _ = _
          simpa using this
        have hs60 : S2.length ≤ 60 := by omega
        clear hsh hS1 hS2 hS3 how3
        have hb13 := below_call b2 b3
        have r2 : ∀ {V}, Below p3.heap.size p3 V → Rd V V.heap.size 13 (.slice A2 S2.length c2) S2.length (adcells S2) := fun hv => rd_next (rd_next (Rd.of_own own2) b3) hv
        have k2 : ∀ {V}, Below p3.heap.size p3 V → ∀ z ∈ S2, AdOk V V.heap.size z := fun hv z hz => (((hg2 z hz).ok.next b3).next hv)
        have r1 : ∀ {V}, Below p3.heap.size p3 V → Rd V V.heap.size 13 (.slice A1 S1.length c1) S1.length (adcells S1) := fun hv => rd_next (rd_next (Rd.of_own own1) hb13) hv
        have k1 : ∀ {V}, Below p3.heap.size p3 V → ∀ z ∈ S1, AdOk V V.heap.size z := fun hv z hz => (((hg1 z hz).ok.next hb13).next hv)
        have r3 : ∀ {V}, Below p3.heap.size p3 V → Rd V V.heap.size 13 (.slice A3 S3.length c3) S3.length (adcells S3) := fun hv => rd_next (Rd.of_own own3) hv
        have k3 : ∀ {V}, Below p3.heap.size p3 V → ∀ z ∈ S3, AdOk V V.heap.size z := fun hv z hz => ((hg3 z hz).ok.next hv)
        have hw3 : Below w.heap.size w p3 := hwb1.trans (hb13.mono hwb1.size)
        have rl : ∀ {V}, Below p3.heap.size p3 V → Rd V V.heap.size 13 (.slice Al L.length cl) L.length (adcells L) := fun hv => (HL.out.below (hw3.trans (hv.mono hw3.size))).mono (Nat.le_trans hw3.size hv.size)
        have kl : ∀ {V}, Below p3.heap.size p3 V → ∀ z ∈ L, AdOk V V.heap.size z := fun hv z hz => ((HAL.out z hz).1.below (hw3.trans (hv.mono hw3.size))).mono (Nat.le_trans hw3.size hv.size)
        have rm : ∀ {V}, Below p3.heap.size p3 V → Rd V V.heap.size 13 (.slice Am M.length cm) M.length (adcells M) := fun hv => (HM.out.below (hw3.trans (hv.mono hw3.size))).mono (Nat.le_trans hw3.size hv.size)
        have km : ∀ {V}, Below p3.heap.size p3 V → ∀ z ∈ M, AdOk V V.heap.size z := fun hv z hz => ((HAM.out z hz).below (hw3.trans (hv.mono hw3.size))).mono (Nat.le_trans hw3.size hv.size)
        have R1 := Lib.hid (fun V (hv : Below p3.heap.size p3 V) => And.intro (r1 hv) (k1 hv))
        have R2 := Lib.hid (fun V (hv : Below p3.heap.size p3 V) => And.intro (r2 hv) (k2 hv))
        have R3 := Lib.hid (fun V (hv : Below p3.heap.size p3 V) => And.intro (r3 hv) (k3 hv))
        have RL := Lib.hid (fun V (hv : Below p3.heap.size p3 V) => And.intro (rl hv) (kl hv))
        have RM := Lib.hid (fun V (hv : Below p3.heap.size p3 V) => And.intro (rm hv) (km hv))
        have OWN1 := Lib.hid own1
        have OWN2 := Lib.hid own2
        have OWN3 := Lib.hid own3
        have HG1 := Lib.hid hg1
        have HG3 := Lib.hid hg3
        have HOW2 := Lib.hid how2
        have HW1 := Lib.hid hwb1
        have HB12 := Lib.hid b2
        have HB23 := Lib.hid b3
        have E21 := Lib.hid e21
        have E31 := Lib.hid e31
        clear r1 k1 r2 k2 r3 k3 rl kl rm km own1 own2 own3 hg1 hg2 hg3 how2 hwb1 b1 b2 b3 hb13 hw3 e21 e31
        have c4 := refSameA_any S2 S1 _ _ p3 (R2.out _ (Below.refl _ _)).1 (R1.out _ (Below.refl _ _)).1 (R2.out _ (Below.refl _ _)).2 (R1.out _ (Below.refl _ _)).2 (by omega)
        rw [eqAB_same E21.out] at c4
        go_wp2_with fail
        refine c4.mono ?_
        rintro e p4 ⟨rfl, hb4⟩
        clear c4
        have c5 := progSameA_any L M _ _ p4 (RL.out _ hb4).1 (RM.out _ hb4).1 (RL.out _ hb4).2 (RM.out _ hb4).2 (by omega)
        have hq : (eqAB L M != eqAB L M) = false := by simp
        obtain ⟨eb, heb⟩ : ∃ eb, eb = eqAB L M := ⟨_, rfl⟩
        rw [← heb] at c5 hq
        have HEB := Lib.hid heb
        clear heb
        go_wp2_with fail
        refine c5.mono ?_
        rintro e p5 ⟨rfl, hb5⟩
        clear c5
        have hb35 := below_call hb4 hb5
        have c6 := refSameA_any L M _ _ p5 (RL.out _ hb35).1 (RM.out _ hb35).1 (RL.out _ hb35).2 (RM.out _ hb35).2 (by omega)
        rw [← HEB.out] at c6
        go_wp2_with fail
        refine c6.mono ?_
        rintro e p6 ⟨rfl, hb6⟩
        clear c6 HEB
        have hb36 := below_call hb35 hb6
        have c7 := progSameA_any S2 S3 _ _ p6 (R2.out _ hb36).1 (R3.out _ hb36).1 (R2.out _ hb36).2 (R3.out _ hb36).2 (by omega)
        rw [eqAB_same (E21.out.trans E31.out.symm)] at c7
        go_wp2_with fail
        refine c7.mono ?_
        rintro e W1 ⟨rfl, hb7⟩
        clear c7
        have hb37 := below_call hb36 hb7
        -- what stays while a is spoiled
        have hb27 := below_call HB23.out hb37
        have hb17 := below_call HB12.out hb27
        have hlo : p1.heap.size ≤ W1.heap.size := hb17.size
        have hhi : p2.heap.size ≤ W1.heap.size := hb27.size
        have HSP0 := Lib.hid (SpR.start OWN2.out HOW2.out hb27)
        have KEEP : Hid (∀ V, Out p1.heap.size p2.heap.size W1 V → Below w.heap.size w V ∧ (Rd V V.heap.size 13 (.slice Al L.length cl) L.length (adcells L) ∧ ∀ z ∈ L, AdOk V V.heap.size z) ∧ (Rd V V.heap.size 13 (.slice Am M.length cm) M.length (adcells M) ∧ ∀ z ∈ M, AdOk V V.heap.size z) ∧ (Rd V V.heap.size 13 (.slice A1 S1.length c1) S1.length (adcells S1) ∧ ∀ z ∈ S1, AdOk V V.heap.size z) ∧ (Rd V V.heap.size 13 (.slice A0 R.length c0') R.length (adcells R) ∧ ∀ z ∈ R, AdOk V V.heap.size z) ∧ (Rd V V.heap.size 13 (.slice A3 S3.length c3) S3.length (adcells S3) ∧ ∀ z ∈ S3, AdOk V V.heap.size z)) := by
          intro V hV
          have hbV : Below p1.heap.size p1 V := hb17.trans (hV.below hlo)
          have hsV := hV.size
          have hwV := HW1.out.trans (hbV.mono HW1.out.size)
          have ows := owns_kept_none OWN3.out (only_of_below hb37 none)
          refine ⟨hwV, ⟨(HL.out.below hwV).mono hwV.size, fun z hz => ((HAL.out z hz).1.below hwV).mono hwV.size⟩, ⟨(HM.out.below hwV).mono hwV.size, fun z hz => ((HAM.out z hz).below hwV).mono hwV.size⟩, ⟨((Rd.of_own OWN1.out).below hbV).mono hbV.size, fun z hz => ((HG1.out z hz).ok.below hbV).mono hbV.size⟩, ⟨((Rd.of_own HIN1.out).below hbV).mono hbV.size, fun z hz => ((HAR1.out z hz).below hbV).mono hbV.size⟩, ⟨(Rd.out (Rd.of_own ows) (Nat.le_refl _) (fun k hk => (far_ownW OWN3.out hk).far0) hV).mono hsV, fun z hz => (AdOk.out ((HG3.out z hz).ok.next hb37) (Nat.le_refl _) (HG3.out z hz).new hV).mono hsV⟩⟩
        clear hb4 hb5 hb6 hb7 hb35 hb36 hb37 hb27 hb17 OWN1 OWN2 OWN3 HG1 HG3 HOW2 HW1 HB12 HB23 R1 R2 R3 RL RM HIN1 HAR1 hq
        generalize p1.heap.size = lo at *
        generalize p2.heap.size = hi2 at *
        clear p2 p3 p4 p5 p6
        go_wp2_with fail
        go_loopw [10] (fun t wx => ∃ (q : Nat) (R' : List AdX), t = .int .i64 q ∧ q ≤ S2.length ∧ Hid (SpR lo hi2 W1 (.slice A2 S2.length c2) S2.length R' wx) ∧ Hid (Short q 35184372087808 R')) (fun t _ => S2.length - (intOf t).toNat)
        case atStart => exact ⟨0, S2, rfl, by omega, HSP0, HSH⟩
        case round =>
          clear HSP0 HSH
          obtain ⟨q, R', rfl, hq, HSP, HSH⟩ := hrel
          rename World => wx
          by_cases hqs : q < S2.length
          · have hIq : (q : Int) < (S2.length : Int) := by omega
            obtain ⟨ga, rfl⟩ := hA2 (by omega)
            obtain ⟨y, hy⟩ : ∃ y, R'[q]? = some y := ⟨_, List.getElem?_eq_getElem (by rw [HSP.out.len]; omega)⟩
            have HY := Lib.hid hy
            have hyk := HSH.out q y (Nat.le_refl _) hy
            have HYK := Lib.hid hyk
            clear hy hyk
            go_wp2_with fail
            go_loopw [11] (fun t wx => ∃ k : Nat, t = .int .i64 k ∧ k ≤ y.v.pa.length ∧ Hid (SpR lo hi2 W1 (.slice (some ⟨ga, 0, none⟩) S2.length c2) S2.length R' wx)) (fun t _ => y.v.pa.length - (intOf t).toNat)
            case atStart => exact ⟨0, rfl, by omega, HSP⟩
            case round =>
              clear HSP
              obtain ⟨k, rfl, hk, HSP⟩ := hrel
              rename World => wx
              have fc : wx.cell? ⟨ga, q * 13 + 5, none⟩ = some (.slice y.pA y.v.pa.length y.pC) := (HSP.out.row.cellAt (q * 13 + 5) (by omega)).trans (adcell HY.out rfl)
              by_cases hlk : k < y.v.pa.length
              · have hIk : (k : Int) < (y.v.pa.length : Int) := by omega
                have hkb := HYK.out.1
                have hls := (HSP.out.ls y (List.mem_of_getElem? HY.out)).p
                obtain ⟨gb, cb, hvb⟩ := hls.pos (by omega)
                obtain ⟨hvA, hvC⟩ : y.pA = some ⟨gb, 0, none⟩ ∧ y.pC = cb := by
                  injection hvb with h1 _ h3
                  exact ⟨h1, h3⟩
                rw [hvb] at hls
                rw [hvA, hvC] at fc
                obtain ⟨⟨uu, huu⟩, hfz⟩ := hls.cell hlk
                have hs9 := HSP.out.step (stp_store (k := k) (u := .int .u32 99) hls (by decide) rfl)
                have HS9 := Lib.hid hs9
                clear hs9 hls hvb hvA hvC HSP
                go_wp2
                go_roundw
                case rel =>
                  first
                    | exact ⟨k + 1, by go_num, by omega, HS9⟩
                    | (repeat apply Exists.intro); exact ⟨⟨k + 1, by go_num, by omega, HS9⟩, rfl⟩
                case measure =>
                  change y.v.pa.length - ((k : Int) + 1).toNat < y.v.pa.length - (k : Int).toNat
                  omega
              · obtain rfl : k = y.v.pa.length := by omega
                have hIk : ¬ (y.v.pa.length : Int) < (y.v.pa.length : Int) := by omega
                go_wp2_with fail
                go_loopw [12] (fun t wx => ∃ k : Nat, t = .int .i64 k ∧ k ≤ y.v.co.length ∧ Hid (SpR lo hi2 W1 (.slice (some ⟨ga, 0, none⟩) S2.length c2) S2.length R' wx)) (fun t _ => y.v.co.length - (intOf t).toNat)
                case atStart => exact ⟨0, rfl, by omega, HSP⟩
                case round =>
                  clear HSP
                  obtain ⟨k, rfl, hk, HSP⟩ := hrel
                  rename World => wx
                  have fc : wx.cell? ⟨ga, q * 13 + 6, none⟩ = some (.slice y.oA y.v.co.length y.oC) := (HSP.out.row.cellAt (q * 13 + 6) (by omega)).trans (adcell HY.out rfl)
                  by_cases hlk : k < y.v.co.length
                  · have hIk : (k : Int) < (y.v.co.length : Int) := by omega
                    have hkb := HYK.out.2.1
                    have hls := (HSP.out.ls y (List.mem_of_getElem? HY.out)).o
                    obtain ⟨gb, cb, hvb⟩ := hls.pos (by omega)
                    obtain ⟨hvA, hvC⟩ : y.oA = some ⟨gb, 0, none⟩ ∧ y.oC = cb := by
                      injection hvb with h1 _ h3
                      exact ⟨h1, h3⟩
                    rw [hvb] at hls
                    rw [hvA, hvC] at fc
                    obtain ⟨⟨uu, huu⟩, hfz⟩ := hls.cell hlk
                    have hs9 := HSP.out.step (stp_store (k := k) (u := .int .u32 99) hls (by decide) rfl)
                    have HS9 := Lib.hid hs9
                    clear hs9 hls hvb hvA hvC HSP
                    go_wp2
                    go_roundw
                    case rel =>
                      first
                        | exact ⟨k + 1, by go_num, by omega, HS9⟩
                        | (repeat apply Exists.intro); exact ⟨⟨k + 1, by go_num, by omega, HS9⟩, rfl⟩
                    case measure =>
                      change y.v.co.length - ((k : Int) + 1).toNat < y.v.co.length - (k : Int).toNat
                      omega
                  · obtain rfl : k = y.v.co.length := by omega
                    have hIk : ¬ (y.v.co.length : Int) < (y.v.co.length : Int) := by omega
                    go_wp2_with fail
                    go_loopw [13] (fun t wx => ∃ k : Nat, t = .int .i64 k ∧ k ≤ y.v.cl.length ∧ Hid (SpR lo hi2 W1 (.slice (some ⟨ga, 0, none⟩) S2.length c2) S2.length R' wx)) (fun t _ => y.v.cl.length - (intOf t).toNat)
                    case atStart => exact ⟨0, rfl, by omega, HSP⟩
                    case round =>
                      clear HSP
                      obtain ⟨k, rfl, hk, HSP⟩ := hrel
                      rename World => wx
                      have fc : wx.cell? ⟨ga, q * 13 + 11, none⟩ = some (.slice y.lA y.v.cl.length y.lC) := (HSP.out.row.cellAt (q * 13 + 11) (by omega)).trans (adcell HY.out rfl)
                      by_cases hlk : k < y.v.cl.length
                      · have hIk : (k : Int) < (y.v.cl.length : Int) := by omega
                        have hkb := HYK.out.2.2
                        have hls := (HSP.out.ls y (List.mem_of_getElem? HY.out)).l
                        obtain ⟨gb, cb, hvb⟩ := hls.pos (by omega)
                        obtain ⟨hvA, hvC⟩ : y.lA = some ⟨gb, 0, none⟩ ∧ y.lC = cb := by
                          injection hvb with h1 _ h3
                          exact ⟨h1, h3⟩
                        rw [hvb] at hls
                        rw [hvA, hvC] at fc
                        obtain ⟨⟨uu, huu⟩, hfz⟩ := hls.cell hlk
                        have hs9 := HSP.out.step (stp_store (k := k) (u := .int .u32 99) hls (by decide) rfl)
                        have HS9 := Lib.hid hs9
                        clear hs9 hls hvb hvA hvC HSP
                        go_wp2
                        go_roundw
                        case rel =>
                          first
                            | exact ⟨k + 1, by go_num, by omega, HS9⟩
                            | (repeat apply Exists.intro); exact ⟨⟨k + 1, by go_num, by omega, HS9⟩, rfl⟩
                        case measure =>
                          change y.v.cl.length - ((k : Int) + 1).toNat < y.v.cl.length - (k : Int).toNat
                          omega
                      · obtain rfl : k = y.v.cl.length := by omega
                        have hIk : ¬ (y.v.cl.length : Int) < (y.v.cl.length : Int) := by omega
                        go_wp2_with fail
                        go_loopw [14] (fun t wx => ∃ (k : Nat) (R'' : List AdX) (y'' : AdX), t = .int .i64 k ∧ k ≤ 9 ∧ Hid (SpR lo hi2 W1 (.slice (some ⟨ga, 0, none⟩) S2.length c2) S2.length R'' wx) ∧ Hid (R''[q]? = some y'') ∧ Hid (Short (q + 1) 35184372087808 R'') ∧ y''.v.pa.length ≤ 35184372087808 + k ∧ y''.v.co.length ≤ 35184372087808 + k ∧ y''.v.cl.length ≤ 35184372087808 + k) (fun t _ => 9 - (intOf t).toNat)
                        case atStart => exact ⟨0, R', y, rfl, by omega, HSP, HY, HSH.out.later (q + 1) (by omega), by have := HYK.out; omega, by have := HYK.out; omega, by have := HYK.out; omega⟩
                        case round =>
                          clear HSP HY HSH HYK
                          obtain ⟨k, R'', y'', rfl, hk, HSP, HY, HSH, bp, bo, bl⟩ := hrel
                          rename World => wx
                          by_cases hk9 : k < 9
                          · have hIk : (k : Int) < 9 := by omega
                            go_upto_region 29 with fail
                            have F5 : ∀ s : InW (SpR lo hi2 W1 (.slice (some ⟨ga, 0, none⟩) S2.length c2) S2.length R''), s.w.cell? ⟨ga, q * 13 + 5, none⟩ = some y''.p := fun s => (s.h.row.cellAt (q * 13 + 5) (by omega)).trans (adcell HY.out rfl)
                            have F6 : ∀ s : InW (SpR lo hi2 W1 (.slice (some ⟨ga, 0, none⟩) S2.length c2) S2.length R''), s.w.cell? ⟨ga, q * 13 + 6, none⟩ = some y''.o := fun s => (s.h.row.cellAt (q * 13 + 6) (by omega)).trans (adcell HY.out rfl)
                            have F11 : ∀ s : InW (SpR lo hi2 W1 (.slice (some ⟨ga, 0, none⟩) S2.length c2) S2.length R''), s.w.cell? ⟨ga, q * 13 + 11, none⟩ = some y''.l := fun s => (s.h.row.cellAt (q * 13 + 11) (by omega)).trans (adcell HY.out rfl)
                            have hne : Nonempty (InW (SpR lo hi2 W1 (.slice (some ⟨ga, 0, none⟩) S2.length c2) S2.length R'')) := ⟨⟨wx, HSP.out⟩⟩
                            refine wp_region_98 [_, _, _, _, _, _, _, _, _, _, _, _, _, _, _, _, _] (SpR lo hi2 W1 (.slice (some ⟨ga, 0, none⟩) S2.length c2) S2.length R'') lo hi2 W1.heap.size y''.p y''.o y''.l y''.v.pa.length y''.v.co.length y''.v.cl.length (by kernel_rfl) (by kernel_rfl) ⟨⟨_, rfl, rfl, rfl, rfl⟩, ⟨_, rfl, rfl, rfl, rfl⟩, ⟨_, rfl, rfl, rfl, rfl⟩, ⟨_, rfl, rfl, rfl, rfl⟩⟩ ⟨⟨_, rfl, rfl, rfl, rfl⟩, ⟨_, rfl, rfl, rfl, rfl⟩, ⟨_, rfl, rfl, rfl, rfl⟩, ⟨_, rfl, rfl, rfl, rfl⟩, ⟨_, rfl, rfl, rfl, rfl⟩, ⟨_, rfl, rfl, rfl, rfl⟩, by kernel_rfl, by kernel_rfl, by kernel_rfl, by kernel_rfl, by kernel_rfl, by kernel_rfl, by kernel_rfl, by kernel_rfl, by kernel_rfl, by kernel_rfl, by kernel_rfl, by kernel_rfl, by kernel_rfl, by kernel_rfl⟩ rfl (fun _ _ h hs => h.step hs) HSP.out.drew ⟨Nat.le_trans hlo HSP.out.out.size, HSP.out.out.size⟩ (HSP.out.drew.ls y'' (List.mem_of_getElem? HY.out)) (by omega) (by omega) (by omega) ?_
                            simp only [four98, Act.put, Act.eval, List.setIfInBounds_toArray, List.set_cons_zero, List.set_cons_succ, Array.getD_eq_getD_getElem?, List.getElem?_toArray, List.getElem?_cons_zero, List.getElem?_cons_succ, Option.getD_some, List.getElem_toArray, List.getElem_cons_zero, List.getElem_cons_succ]
                            repeat (first | go_big_quiet_step (fail) | quiet_step (fail))
                            refine wpQuiet_nil ?_
                            refine ⟨Nat.le_of_ble_eq_true rfl, rfl, rfl, rfl, ?_⟩
                            clear F5 F6 F11 HSP hne
                            intro x1 x2 x3 B1 k1 B2 k2 B3 k3 w' hS1 g1 g2 g3
                            have HSN := Lib.hid (hS1.app HY.out g1 g2 g3)
                            have HGN : Hid ((R''.set q (y''.app B1 k1 B2 k2 B3 k3))[q]? = some (y''.app B1 k1 B2 k2 B3 k3)) := by
                              show _ = _
                              exact List.getElem?_set_self (List.getElem?_eq_some_iff.1 HY.out).1
                            have HSHN : Hid (Short (q + 1) 35184372087808 (R''.set q (y''.app B1 k1 B2 k2 B3 k3))) := HSH.out.set (by omega)
                            have HLN : Hid ((y''.app B1 k1 B2 k2 B3 k3).v.pa.length ≤ 35184372087808 + (k + 1) ∧ (y''.app B1 k1 B2 k2 B3 k3).v.co.length ≤ 35184372087808 + (k + 1) ∧ (y''.app B1 k1 B2 k2 B3 k3).v.cl.length ≤ 35184372087808 + (k + 1)) := by
                              obtain ⟨e1, e2, e3⟩ := app_lens y''.v
                              show y''.v.app.pa.length ≤ _ ∧ y''.v.app.co.length ≤ _ ∧ y''.v.app.cl.length ≤ _
                              omega
                            obtain ⟨r1, _⟩ := hS1.row.stored (q * 13 + 5) (.slice B1 (y''.v.pa.length + 1) k1)
                            obtain ⟨r2, _⟩ := r1.stored (q * 13 + 6) (.slice B2 (y''.v.co.length + 1) k2)
                            obtain ⟨u5, hu5⟩ : ∃ u, w'.cell? ⟨ga, q * 13 + 5, none⟩ = some u := ⟨_, (hS1.row.cellAt (q * 13 + 5) (by omega)).trans (adcell HY.out rfl)⟩
                            obtain ⟨u6, hu6⟩ : ∃ u, (w'.setCell ⟨ga, q * 13 + 5, none⟩ (.slice B1 (y''.v.pa.length + 1) k1)).cell? ⟨ga, q * 13 + 6, none⟩ = some u := ⟨_, (r1.cellAt (q * 13 + 6) (by omega)).trans (List.getElem?_eq_getElem (by rw [r1.1]; omega))⟩
                            obtain ⟨u11, hu11⟩ : ∃ u, ((w'.setCell ⟨ga, q * 13 + 5, none⟩ (.slice B1 (y''.v.pa.length + 1) k1)).setCell ⟨ga, q * 13 + 6, none⟩ (.slice B2 (y''.v.co.length + 1) k2)).cell? ⟨ga, q * 13 + 11, none⟩ = some u := ⟨_, (r2.cellAt (q * 13 + 11) (by omega)).trans (List.getElem?_eq_getElem (by rw [r2.1]; omega))⟩
                            have z5 := hS1.row.frozenAt (q * 13 + 5)
                            have z6 := r1.frozenAt (q * 13 + 6)
                            have z11 := r2.frozenAt (q * 13 + 11)
                            clear hS1 g1 g2 g3 r1 r2
                            simp only [List.drop_succ_cons, List.drop_zero, List.setIfInBounds_toArray, List.set_cons_zero, List.set_cons_succ]
                            go_wp2
                            refine NoPanic.normal ?_
                            go_wp2
                            go_roundw
                            case rel =>
                              first
                                | exact ⟨k + 1, R''.set q (y''.app B1 k1 B2 k2 B3 k3), y''.app B1 k1 B2 k2 B3 k3, by go_num, by omega, HSN, HGN, HSHN, HLN.out.1, HLN.out.2.1, HLN.out.2.2⟩
                                | (repeat apply Exists.intro); exact ⟨⟨k + 1, R''.set q (y''.app B1 k1 B2 k2 B3 k3), y''.app B1 k1 B2 k2 B3 k3, by go_num, by omega, HSN, HGN, HSHN, HLN.out.1, HLN.out.2.1, HLN.out.2.2⟩, rfl⟩
                            case measure =>
                              change 9 - ((k : Int) + 1).toNat < 9 - (k : Int).toNat
                              omega
                          · obtain rfl : k = 9 := by omega
                            have hIk : ¬ (9 : Int) < 9 := by omega
                            go_wp2
                            go_roundw
                            case rel =>
                              first
                                | exact ⟨q + 1, R'', by go_num, by omega, HSP, HSH⟩
                                | (repeat apply Exists.intro); exact ⟨⟨q + 1, R'', by go_num, by omega, HSP, HSH⟩, rfl⟩
                            case measure =>
                              change S2.length - ((q : Int) + 1).toNat < S2.length - (q : Int).toNat
                              omega

          · obtain rfl : q = S2.length := by omega
            have hIq : ¬ (S2.length : Int) < (S2.length : Int) := by omega
            have HRX : Hid (∃ xs, wx.ownsRow lo 36 13 (.slice A2 S2.length c2) (S2.length + 0) xs) := ⟨_, HSP.out.row⟩
            have HZN : Hid (∀ g, (Value.slice A2 S2.length c2).ownBlock = some g → g < hi2 ∨ W1.heap.size ≤ g) := HSP.out.zone
            have HOUT : Hid (Out lo hi2 W1 wx) := HSP.out.out
            clear HSP HSH
            go_wp2_with fail
            go_loopw [8, 15] (fun v t wx => ∃ k : Nat, t = .int .i64 k ∧ k ≤ 20 ∧ Hid (∃ xs, wx.ownsRow lo 36 13 v (S2.length + k) xs) ∧ Hid (∀ g, v.ownBlock = some g → g < hi2 ∨ W1.heap.size ≤ g) ∧ Hid (Out lo hi2 W1 wx)) (fun _ t _ => 20 - (intOf t).toNat)
            case atStart => exact ⟨0, rfl, by omega, HRX, HZN, HOUT⟩
            case round =>
              clear HRX HZN HOUT
              obtain ⟨k, rfl, hk, HRX, HZN, HOUT⟩ := hrel
              rename World => wx
              by_cases hk20 : k < 20
              · have hIk : (k : Int) < 20 := by omega
                obtain ⟨xs, ho⟩ := HRX.out
                have hsx := HOUT.out.size
                have hbx := HOUT.out.below hlo
                go_wp2_with (at_builtin; refine wpList_pushG rfl _ _ 32 rfl 36 i0 _ 13 136 Try.underlying32 hi hz0 hz1 hz2 rfl (by decide) (AdX.enc ⟨av0W, none, 0, none, 0, none, 0⟩) rfl rfl (by simp) ho rfl (aenc_one _) (by omega) (by omega) (by omega) hbx (Nat.le_refl _) ?_; intro g2 c2' w2 hown2 hgr2 hlies2 _)
                have HRX2 : Hid (∃ ys, w2.ownsRow lo 36 13 (.slice (some ⟨g2, 0, none⟩) (S2.length + k + 1) c2') (S2.length + (k + 1)) ys) := ⟨_, hown2⟩
                have HZN2 : Hid (∀ g, (Value.slice (some ⟨g2, 0, none⟩) (S2.length + k + 1) c2').ownBlock = some g → g < hi2 ∨ W1.heap.size ≤ g) := by
                  intro g hg
                  injection hg with hg
                  dsimp only at hg
                  subst hg
                  rcases hlies2 with hl2 | hl2
                  · exact HZN.out _ hl2
                  · exact .inr (by omega)
                have HOUT2 : Hid (Out lo hi2 W1 w2) := HOUT.out.grown hgr2 (fun g hg => ⟨(ho.lt g hg).1, HZN.out g hg⟩)
                clear HRX HZN HOUT hown2 hgr2 hlies2 ho
                go_roundw
                case rel =>
                  first
                    | exact ⟨k + 1, by go_num, by omega, HRX2, HZN2, HOUT2⟩
                    | (repeat apply Exists.intro); exact ⟨⟨k + 1, by go_num, by omega, HRX2, HZN2, HOUT2⟩, rfl⟩
                case measure =>
                  change 20 - ((k : Int) + 1).toNat < 20 - (k : Int).toNat
                  omega
              · obtain rfl : k = 20 := by omega
                have hIk : ¬ (20 : Int) < 20 := by omega
                obtain ⟨xs, ho⟩ := HRX.out
                obtain ⟨AA, ca, rfl, _⟩ := owns_form ho
                clear HRX HZN ho
                go_wp2_with fail
                go_loopw [16] (fun t wy => ∃ q : Nat, t = .int .i64 q ∧ q ≤ L.length ∧ q ≤ M.length ∧ Hid (Out lo hi2 W1 wy)) (fun t _ => L.length - (intOf t).toNat)
                case atStart => exact ⟨0, rfl, by omega, by omega, HOUT⟩
                case round =>
                  clear HOUT
                  obtain ⟨q, rfl, hql, hqm, HOUT⟩ := hrel
                  rename World => wy
                  have hkeep := KEEP.out wy HOUT.out
                  have HK := Lib.hid hkeep
                  clear hkeep
                  by_cases hlt8 : q < L.length ∧ q < M.length
                  · obtain ⟨h8, h9⟩ := hlt8
                    have hI8 : (q : Int) < (L.length : Int) := by omega
                    have hI9 : (q : Int) < (M.length : Int) := by omega
                    obtain ⟨x, hx⟩ : ∃ x, L[q]? = some x := ⟨_, List.getElem?_eq_getElem h8⟩
                    obtain ⟨y, hy⟩ : ∃ y, M[q]? = some y := ⟨_, List.getElem?_eq_getElem h9⟩
                    have HX := Lib.hid hx
                    have HY := Lib.hid hy
                    have okx := HK.out.2.1.2 x (List.mem_of_getElem? hx)
                    have oky := HK.out.2.2.1.2 y (List.mem_of_getElem? hy)
                    obtain ⟨b, off, c', hv, _, hbB, hcell⟩ := HK.out.2.1.1.posAt (by omega)
                    injection hv with hv1 _ hv3
                    subst hv1 hv3
                    obtain ⟨b2, off2, c2'', hv, _, hbB2, hcell2⟩ := HK.out.2.2.1.1.posAt (by omega)
                    injection hv with hv1 _ hv3
                    subst hv1 hv3
                    have f0 : wy.cell? ⟨b, off + q * 13, none⟩ = some (.int .u32 x.v.a) := hcell q 0 _ (adcell HX.out rfl)
                    have f1 : wy.cell? ⟨b, off + q * 13 + 1, none⟩ = some (.int .i64 x.v.m) := hcell q 1 _ (adcell HX.out rfl)
                    have f2 : wy.cell? ⟨b, off + q * 13 + 2, none⟩ = some (.int .u32 x.v.ho) := hcell q 2 _ (adcell HX.out rfl)
                    have f3 : wy.cell? ⟨b, off + q * 13 + 3, none⟩ = some (.int .i64 x.v.pf) := hcell q 3 _ (adcell HX.out rfl)
                    have f4 : wy.cell? ⟨b, off + q * 13 + 4, none⟩ = some (.int .i64 x.v.me) := hcell q 4 _ (adcell HX.out rfl)
                    have f5 : wy.cell? ⟨b, off + q * 13 + 5, none⟩ = some x.p := hcell q 5 _ (adcell HX.out rfl)
                    have f6 : wy.cell? ⟨b, off + q * 13 + 6, none⟩ = some x.o := hcell q 6 _ (adcell HX.out rfl)
                    have f7 : wy.cell? ⟨b, off + q * 13 + 7, none⟩ = some (.int .u32 x.v.pe) := hcell q 7 _ (adcell HX.out rfl)
                    have f8 : wy.cell? ⟨b, off + q * 13 + 8, none⟩ = some (.int .u32 x.v.id) := hcell q 8 _ (adcell HX.out rfl)
                    have f9 : wy.cell? ⟨b, off + q * 13 + 9, none⟩ = some (.bool x.v.ex) := hcell q 9 _ (adcell HX.out rfl)
                    have f10 : wy.cell? ⟨b, off + q * 13 + 10, none⟩ = some (.int .u32 x.v.og) := hcell q 10 _ (adcell HX.out rfl)
                    have f11 : wy.cell? ⟨b, off + q * 13 + 11, none⟩ = some x.l := hcell q 11 _ (adcell HX.out rfl)
                    have f12 : wy.cell? ⟨b, off + q * 13 + 12, none⟩ = some (.int .i64 x.v.ss) := hcell q 12 _ (adcell HX.out rfl)
                    have e0 : wy.cell? ⟨b2, off2 + q * 13, none⟩ = some (.int .u32 y.v.a) := hcell2 q 0 _ (adcell HY.out rfl)
                    have e1 : wy.cell? ⟨b2, off2 + q * 13 + 1, none⟩ = some (.int .i64 y.v.m) := hcell2 q 1 _ (adcell HY.out rfl)
                    have e2 : wy.cell? ⟨b2, off2 + q * 13 + 2, none⟩ = some (.int .u32 y.v.ho) := hcell2 q 2 _ (adcell HY.out rfl)
                    have e3 : wy.cell? ⟨b2, off2 + q * 13 + 3, none⟩ = some (.int .i64 y.v.pf) := hcell2 q 3 _ (adcell HY.out rfl)
                    have e4 : wy.cell? ⟨b2, off2 + q * 13 + 4, none⟩ = some (.int .i64 y.v.me) := hcell2 q 4 _ (adcell HY.out rfl)
                    have e5 : wy.cell? ⟨b2, off2 + q * 13 + 5, none⟩ = some y.p := hcell2 q 5 _ (adcell HY.out rfl)
                    have e6 : wy.cell? ⟨b2, off2 + q * 13 + 6, none⟩ = some y.o := hcell2 q 6 _ (adcell HY.out rfl)
                    have e7 : wy.cell? ⟨b2, off2 + q * 13 + 7, none⟩ = some (.int .u32 y.v.pe) := hcell2 q 7 _ (adcell HY.out rfl)
                    have e8 : wy.cell? ⟨b2, off2 + q * 13 + 8, none⟩ = some (.int .u32 y.v.id) := hcell2 q 8 _ (adcell HY.out rfl)
                    have e9 : wy.cell? ⟨b2, off2 + q * 13 + 9, none⟩ = some (.bool y.v.ex) := hcell2 q 9 _ (adcell HY.out rfl)
                    have e10 : wy.cell? ⟨b2, off2 + q * 13 + 10, none⟩ = some (.int .u32 y.v.og) := hcell2 q 10 _ (adcell HY.out rfl)
                    have e11 : wy.cell? ⟨b2, off2 + q * 13 + 11, none⟩ = some y.l := hcell2 q 11 _ (adcell HY.out rfl)
                    have e12 : wy.cell? ⟨b2, off2 + q * 13 + 12, none⟩ = some (.int .i64 y.v.ss) := hcell2 q 12 _ (adcell HY.out rfl)
                    have F0 := cell_regrown f0
                    have E0 := cell_regrown e0
                    have F1 := cell_regrown f1
                    have E1 := cell_regrown e1
                    have F2 := cell_regrown f2
                    have E2 := cell_regrown e2
                    have F3 := cell_regrown f3
                    have E3 := cell_regrown e3
                    have F4 := cell_regrown f4
                    have E4 := cell_regrown e4
                    have F5 := cell_regrown f5
                    have E5 := cell_regrown e5
                    have F6 := cell_regrown f6
                    have E6 := cell_regrown e6
                    have F7 := cell_regrown f7
                    have E7 := cell_regrown e7
                    have F8 := cell_regrown f8
                    have E8 := cell_regrown e8
                    have F9 := cell_regrown f9
                    have E9 := cell_regrown e9
                    have F10 := cell_regrown f10
                    have E10 := cell_regrown e10
                    have F11 := cell_regrown f11
                    have E11 := cell_regrown e11
                    have F12 := cell_regrown f12
                    have E12 := cell_regrown e12
                    have HC1 := Lib.hid (fun (W : World) (hb : Below wy.heap.size wy W) => (cmpAX x y W (okx.next hb) (oky.next hb)).mono fun e w' (h : _ ∧ GR W w') => (⟨h.1, GR.below h.2⟩ : e = .returned (.int .i64 (cmpA x.v y.v)) ∧ Below W.heap.size W w'))
                    have HC2 := Lib.hid (fun (W : World) (hb : Below wy.heap.size wy W) => refAcmpX x y W (okx.next hb) (oky.next hb))
                    clear hcell hcell2 hx hy okx oky f0 f1 f2 f3 f4 f5 f6 f7 f8 f9 f10 f11 f12 e0 e1 e2 e3 e4 e5 e6 e7 e8 e9 e10 e11 e12
                    go_wp2
                    refine wp_region_quiet_below (by kernel_rfl) (by kernel_rfl) ?_
                    repeat (first | go_big_quiet_step (first | (go_at_call 16; exact Calls.regrown_of (HC1.out _ (below_regrown _ _ _))) | (go_at_call 17; exact Calls.regrown_of (HC2.out _ (below_regrown _ _ _)))) | quiet_step (first | (go_at_call 16; exact Calls.regrown_of (HC1.out _ (below_regrown _ _ _))) | (go_at_call 17; exact Calls.regrown_of (HC2.out _ (below_regrown _ _ _)))))
                    refine wpQuiet_nil ?_
                    intro _ hw'
                    obtain ⟨⟨nq, osq⟩, hw''⟩ := hw'
                    subst hw''
                    have HO2 := Lib.hid (HOUT.out.next (below_regrown wy nq osq))
                    clear HOUT HK HC1 HC2 F0 E0 F1 E1 F2 E2 F3 E3 F4 E4 F5 E5 F6 E6 F7 E7 F8 E8 F9 E9 F10 E10 F11 E11 F12 E12
                    go_wp2
                    go_roundw
                    case rel =>
                      first
                        | exact ⟨q + 1, by go_num, by omega, by omega, HO2⟩
                        | (repeat apply Exists.intro); exact ⟨⟨q + 1, by go_num, by omega, by omega, HO2⟩, rfl⟩
                    case measure =>
                      change L.length - ((q : Int) + 1).toNat < L.length - (q : Int).toNat
                      omega
                  · have c8 := refSameA_any S3 S1 _ _ wy HK.out.2.2.2.2.2.1 HK.out.2.2.2.1.1 HK.out.2.2.2.2.2.2 HK.out.2.2.2.1.2 (by omega)
                    rw [eqAB_same E31.out] at c8
                    have C8 := Lib.hid c8
                    have hwp : IntKind.i64.wrap ((S1.length : Int) + 20) = (S1.length : Int) + 20 := by rw [IntKind.wrap_i64]; omega
                    have hee : ((S1.length : Int) + 20 == (S1.length : Int) + 20) = true := by simp
                    clear c8
                    by_cases h8 : q < L.length
                    · obtain rfl : q = M.length := by omega
                      have hI8 : (M.length : Int) < (L.length : Int) := by omega
                      have hI9 : ¬ (M.length : Int) < (M.length : Int) := by omega
                      have hs12 := HS12.out
                      go_wp2_with fail
                      clear hs12
                      refine C8.out.mono ?_
                      rintro e w8 ⟨rfl, hb8⟩
                      have HK8 := Lib.hid (KEEP.out w8 (HOUT.out.next hb8))
                      have c9 := refSameA_any R L _ _ w8 HK8.out.2.2.2.2.1.1 HK8.out.2.1.1 HK8.out.2.2.2.2.1.2 HK8.out.2.1.2 (by omega)
                      rw [eqAB_same HSL.out] at c9
                      go_wp2_with fail
                      refine c9.mono ?_
                      rintro e w9 ⟨rfl, hb9⟩
                      clear c9
                      have HEND := Lib.hid (HK8.out.1.trans (hb9.mono HK8.out.1.size))
                      clear hb8 hb9
                      go_wp2
                      go_ret
                      exact ⟨rfl, HEND.out⟩
                    · obtain rfl : q = L.length := by omega
                      have hI8 : ¬ (L.length : Int) < (L.length : Int) := by omega
                      have hs12 := HS12.out
                      go_wp2_with fail
                      clear hs12
                      refine C8.out.mono ?_
                      rintro e w8 ⟨rfl, hb8⟩
                      have HK8 := Lib.hid (KEEP.out w8 (HOUT.out.next hb8))
                      have c9 := refSameA_any R L _ _ w8 HK8.out.2.2.2.2.1.1 HK8.out.2.1.1 HK8.out.2.2.2.2.1.2 HK8.out.2.1.2 (by omega)
                      rw [eqAB_same HSL.out] at c9
                      go_wp2_with fail
                      refine c9.mono ?_
                      rintro e w9 ⟨rfl, hb9⟩
                      clear c9
                      have HEND := Lib.hid (HK8.out.1.trans (hb9.mono HK8.out.1.size))
                      clear hb8 hb9
                      go_wp2
                      go_ret
                      exact ⟨rfl, HEND.out⟩
end Go.Proofs.Ytbanbommgcjmjaa

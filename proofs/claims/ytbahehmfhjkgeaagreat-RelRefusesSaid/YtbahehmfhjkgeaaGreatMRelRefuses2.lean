/-
  Joined texts: Bm5, Bm6, Bm7, Bm8, Bn1, Rn1, Bm12, Wid, Dfs, Sg, Rb1, Wid2, Rb3, Math, A1.
-/
import Derived.Test.YtbahehmfhjkgeaaGreatMRelRefuses1
import Derived.Deep.CutBlock
import Derived.Carry
import Derived.Laws.OwnMore
import Derived.IntWalk
import Derived.Laws.BitsAllLaws
import Derived.Deep.RegionHeld3
import Derived.Deep.DeepCutAuto
import Derived.Below
import Derived.Test.YtbahehmfhjkgeaaGreatProg
import Derived.WalkKit
import Derived.WalkSpells
import Derived.WalkLawsBesides
import Derived.Lib.Hide
/-
  The walks of the arena's give: what is handed out, and what is held from then on.
-/
namespace Go.Proofs.YtbahehmfhjkgeaaGreat
open Go Go.RowKit Go.ChangeMaps Go.MapKept Go.Maps Go.Lib Go.Sort

/-- The nodes that a walk from f comes to, behind F, those of H left out. -/
def dfs (N : List Nd) (H : List Nat) : Nat → Nat → List Nat → List Nat
  | 0, _, F => F
  | n + 1, f, F => if f < 2 ∨ f ∈ F ∨ f ∈ H then F else dfs N H n (nd N f).hi (dfs N H n (nd N f).lo (F ++ [f]))
theorem nodup_le : ∀ (n : Nat) (l : List Nat), l.Nodup → (∀ i ∈ l, i < n) → l.length ≤ n
  | 0, l, _, h => by
    cases l with
    | nil => simp
    | cons a r => exact absurd (h a (List.mem_cons_self ..)) (by omega)
  | n + 1, l, hn, h => by
    have ih := nodup_le n (l.erase n) (hn.erase n) fun i hi => by
      have h1 := (hn.mem_erase_iff).1 hi
      have h2 := h i h1.2
      have h3 := h1.1
      omega
    by_cases hm : n ∈ l
    · rw [List.length_erase_of_mem hm] at ih
      omega
    · rw [List.erase_of_not_mem hm] at ih
      omega
/-- New nodes: none twice, none out of the arena. -/
def FOk (N : List Nd) (F : List Nat) : Prop := F.Nodup ∧ ∀ i ∈ F, 2 ≤ i ∧ i < N.length
theorem FOk.len {N : List Nd} {F : List Nat} (h : FOk N F) : F.length ≤ N.length := nodup_le _ _ h.1 fun i hi => (h.2 i hi).2
theorem FOk.snoc {N : List Nd} {F : List Nat} (h : FOk N F) {f : Nat} (h2 : 2 ≤ f) (hf : f < N.length) (hF : f ∉ F) : FOk N (F ++ [f]) := by
  refine ⟨?_, fun i hi => ?_⟩
  · rw [List.nodup_append]
    refine ⟨h.1, by simp, fun a ha b hb => ?_⟩
    simp at hb
    subst hb
    intro e
    subst e
    exact hF ha
  · rcases List.mem_append.1 hi with hi | hi
    · exact h.2 i hi
    · simp at hi; subst hi; exact ⟨h2, hf⟩
theorem dfs_ok {N : List Nd} (w : WF N) (H : List Nat) : ∀ (n f : Nat) (F : List Nat), f < N.length → FOk N F → FOk N (dfs N H n f F)
  | 0, _, _, _, h => h
  | n + 1, f, F, hf, h => by
    unfold dfs
    by_cases hc : f < 2 ∨ f ∈ F ∨ f ∈ H
    · rw [if_pos hc]; exact h
    · rw [if_neg hc]
      have h2 : 2 ≤ f := by omega
      have hl := w.lo f h2 hf
      have hh := w.hi f h2 hf
      exact dfs_ok w H n _ _ (by omega) (dfs_ok w H n _ _ (by omega) (h.snoc h2 hf fun e => hc (.inr (.inl e))))
def seenL (F : List Nat) : List (Value × Value) := (.int .i32 0, .bool true) :: (.int .i32 1, .bool true) :: heldL F
theorem heldL_keys (H : List Nat) : (heldL H).map (·.1) = H.map fun (i : Nat) => Value.int .i32 (i : Int) := by
  unfold heldL
  rw [List.map_map]; rfl
theorem heldL_get (H : List Nat) (f : Nat) : getM (heldL H) (.int .i32 f) = if f ∈ H then some (.bool true) else none := by
  induction H with
  | nil => rfl
  | cons a r ih =>
    show getM ((Value.int .i32 (a : Int), Value.bool true) :: heldL r) _ = _
    unfold getM at ih ⊢
    by_cases h : a = f
    · subst h
      rw [List.find?_cons_of_pos (by simp), if_pos (List.mem_cons_self ..)]
      rfl
    · rw [List.find?_cons_of_neg (by simp; omega), ih]
      by_cases hm : f ∈ r
      · rw [if_pos hm, if_pos (List.mem_cons_of_mem _ hm)]
      · rw [if_neg hm, if_neg (fun h' => by rcases List.mem_cons.1 h' with e | e; exact h e.symm; exact hm e)]
theorem seenL_get (F : List Nat) (f : Nat) : getM (seenL F) (.int .i32 f) = if f < 2 ∨ f ∈ F then some (.bool true) else none := by
  unfold seenL getM
  by_cases h0 : f = 0
  · subst h0
    rw [List.find?_cons_of_pos (by simp), if_pos (.inl (by omega))]; rfl
  · rw [List.find?_cons_of_neg (by simp; omega)]
    by_cases h1 : f = 1
    · subst h1
      rw [List.find?_cons_of_pos (by simp), if_pos (.inl (by omega))]; rfl
    · rw [List.find?_cons_of_neg (by simp; omega)]
      have := heldL_get F f
      unfold getM at this
      rw [this]
      by_cases hm : f ∈ F
      · rw [if_pos hm, if_pos (.inr hm)]
      · rw [if_neg hm, if_neg (by rintro (h | h); omega; exact hm h)]
theorem seenL_put (F : List Nat) (f : Nat) (h2 : 2 ≤ f) (hf : f ∉ F) : putM (seenL F) (.int .i32 f) (.bool true) = seenL (F ++ [f]) := by
  have hk : (Value.int .i32 (f : Int)) ∉ (seenL F).map (·.1) := by
    unfold seenL
    simp only [List.map_cons, heldL_keys, List.mem_cons, List.mem_map, not_or, not_exists, not_and]
    refine ⟨by simp; omega, by simp; omega, fun x hx e => hf ?_⟩
    have : x = f := by simp at e; omega
    rw [← this]; exact hx
  unfold putM
  rw [if_neg hk]
  simp [seenL, heldL]
/-- The frame of give's walk: the boxes, what was seen, what is new. -/
structure GSt (w : World) (A : Blks) (bs ba bf bw bm : Nat) (F : List Nat) (W : World) : Prop where
  s : W.heap[bs]? = some (.cells #[.map (some bm)] 193 (0, 0))
  a : W.heap[ba]? = some (.cells #[.pointer (some ⟨A.a, 0, none⟩)] 108 (0, 0))
  k : W.heap[bw]? = some (.cells #[.func (.func 208) #[] #[.pointer (some ⟨bs, 0, none⟩), .pointer (some ⟨ba, 0, none⟩), .pointer (some ⟨bf, 0, none⟩), .pointer (some ⟨bw, 0, none⟩)]] 296 (0, 0))
  f : ∃ fv, W.heap[bf]? = some (.cells #[fv] 270 (0, 0)) ∧ W.ownsRow w.heap.size 21 1 fv F.length (F.map fun (i : Nat) => Value.int .i32 (i : Int)) ∧ fv.ownBlock ≠ some bs ∧ fv.ownBlock ≠ some ba ∧ fv.ownBlock ≠ some bw ∧ fv.ownBlock ≠ some bf ∧ fv.ownBlock ≠ some bm
  m : MapAt Tryz.prog 21 W bm (seenL F)
  ne : bs ≠ ba ∧ bs ≠ bf ∧ bs ≠ bw ∧ bs ≠ bm ∧ ba ≠ bf ∧ ba ≠ bw ∧ ba ≠ bm ∧ bf ≠ bw ∧ bf ≠ bm ∧ bw ≠ bm
  ge : w.heap.size ≤ bs ∧ w.heap.size ≤ ba ∧ w.heap.size ≤ bf ∧ w.heap.size ≤ bw ∧ w.heap.size ≤ bm
  b : Below w.heap.size w W
theorem GSt.below {w W W' : World} {A : Blks} {bs ba bf bw bm : Nat} {F : List Nat} (g : GSt w A bs ba bf bw bm F W) (hb : Below W.heap.size W W') : GSt w A bs ba bf bw bm F W' := by
  obtain ⟨fv, h1, h2, h3⟩ := g.f
  exact ⟨blk_below hb g.s, blk_below hb g.a, blk_below hb g.k, ⟨fv, blk_below hb h1, owns_kept_none h2 (only_of_below hb none), h3⟩, g.m.same (hb.block _ g.m.lt), g.ne, g.ge, g.b.trans (hb.mono g.b.size)⟩
theorem cell0 {w : World} {k : Nat} {u : Value} {t : TypeId} (h : w.heap[k]? = some (.cells #[u] t (0, 0))) : w.cell? ⟨k, 0, none⟩ = some u := by
  rw [cell_of_row w _ 0 _ _ (0, 0) h]; rfl
/-- One node more in give's walk. -/
theorem GSt.put {w W w1 w2 : World} {A : Blks} {bs ba bf bw bm : Nat} {F : List Nat} {f : Nat} {fv v2 : Value} (g : GSt w A bs ba bf bw bm F W) (hfv : W.heap[bf]? = some (.cells #[fv] 270 (0, 0)))
    (hown : W.ownsRow w.heap.size 21 1 fv F.length (F.map fun (i : Nat) => Value.int .i32 (i : Int))) (ho : fv.ownBlock ≠ some bs ∧ fv.ownBlock ≠ some ba ∧ fv.ownBlock ≠ some bw ∧ fv.ownBlock ≠ some bf ∧ fv.ownBlock ≠ some bm)
    (hm : MapAt Tryz.prog 21 w1 bm (putM (seenL F) (.int .i32 f) (.bool true))) (hg1 : W.grownBy w1 (some bm)) (h2 : 2 ≤ f) (hf : f ∉ F)
    (hown2 : w2.ownsRow w.heap.size 21 1 v2 (F.length + 1) ((F.map fun (i : Nat) => Value.int .i32 (i : Int)) ++ [.int .i32 f])) (hg2 : w1.grownBy w2 fv.ownBlock) (hmv : Moved fv v2 w1.heap.size) :
    GSt w A bs ba bf bw bm (F ++ [f]) (w2.setCell ⟨bf, 0, none⟩ v2) ∧ w2.heap[bf]? = some (.cells #[fv] 270 (0, 0)) := by
  obtain ⟨o1, o2, o3, o4, o5⟩ := ho
  obtain ⟨n1, n2, n3, n4, n5, n6, n7, n8, n9, n10⟩ := g.ne
  obtain ⟨e1, e2, e3, e4, e5⟩ := g.ge
  have ls := lt_of_block g.s
  have la := lt_of_block g.a
  have lk := lt_of_block g.k
  have lf := lt_of_block hfv
  have lm := g.m.lt
  have z1 := hg1.size
  have z2 := hg2.size
  have s1 : ∀ k, k < W.heap.size → k ≠ bm → fv.ownBlock ≠ some k → w2.heap[k]? = W.heap[k]? := fun k hk hkm hko => (hg2.block k (by omega) (fun e => hko e.symm)).trans (hg1.block k hk (fun e => hkm (by injection e)))
  have s2 : ∀ k, k < W.heap.size → k ≠ bm → k ≠ bf → fv.ownBlock ≠ some k → (w2.setCell ⟨bf, 0, none⟩ v2).heap[k]? = W.heap[k]? := fun k hk hkm hkf hko => (Below.heap_setCell w2 ⟨bf, 0, none⟩ v2 k hkf).trans (s1 k hk hkm hko)
  have off : ∀ k, k < W.heap.size → fv.ownBlock ≠ some k → v2.ownBlock ≠ some k := fun k hk hko e => by
    rcases hmv with h | h
    · rw [h] at e; exact hko e
    · have := h k e; omega
  have c2 := (s1 bf lf n9 o4).trans hfv
  have hsz : (w2.setCell ⟨bf, 0, none⟩ v2).heap.size = w2.heap.size := by simp [World.setCell]
  refine ⟨⟨(s2 bs ls n4 n2 o1).trans g.s, (s2 ba la n7 n5 o2).trans g.a, (s2 bw lk n10.symm.symm (fun e => n8 e.symm) o3).trans g.k, ⟨v2, set_at c2, ?_, off bs ls o1, off ba la o2, off bw lk o3, off bf lf o4, off bm lm o5⟩, ?_, g.ne, g.ge, ⟨?_, ?_, ?_, ?_, ?_⟩⟩, c2⟩
  · rw [List.length_append, List.map_append]
    exact owns_like hown2 fun k hk => Below.heap_setCell w2 ⟨bf, 0, none⟩ v2 k (fun e => off bf lf o4 (by rw [hk, e]))
  · rw [← seenL_put F f h2 hf]
    exact hm.same ((Below.heap_setCell w2 ⟨bf, 0, none⟩ v2 bm (fun e => n9 e.symm)).trans (hg2.block bm (by omega) (fun e => o5 e.symm)))
  · exact (hg2.os.trans hg1.os).trans g.b.os
  · exact (hg2.tape.trans hg1.tape).trans g.b.tape
  · exact (hg2.output.trans hg1.output).trans g.b.output
  · have := g.b.size; omega
  · intro k hk
    have := g.b.size
    refine (s2 k (by omega) (by omega) (by omega) (fun e => ?_)).trans (g.b.block k hk)
    have := (hown.lt k e).1
    omega
theorem Tryz.infoI32 : (Tryz.prog.info? 21).map (fun i => (i.zero, i.size, i.bytes)) = some (some (.int .i32 0), 1, 4) := by kernel_rfl
theorem one_i32 (x : Int) : ∀ u ∈ [Value.int .i32 x], u.oneCell' = true := by
  intro u hu
  simp at hu
  subst hu
  rfl
set_option maxRecDepth 100000 in
set_option maxHeartbeats 8000000 in
theorem giveWalk_any {w : World} {B : Nat} {A : Blks} {V Mo : Nat} {N : List Nd} {H G : List Nat} (hA : ArAt w B A V Mo N H G) {bs ba bf bw bm : Nat} : ∀ (n f : Nat) (F : List Nat) (W : World), f < n → f < N.length → FOk N F → GSt w A bs ba bf bw bm F W →
    Calls Tryz.prog 208 #[.int .i32 f, .pointer (some ⟨bs, 0, none⟩), .pointer (some ⟨ba, 0, none⟩), .pointer (some ⟨bf, 0, none⟩), .pointer (some ⟨bw, 0, none⟩)] W
      fun e W' => e = .returned (.tuple #[]) ∧ GSt w A bs ba bf bw bm (dfs N H n f F) W' := by
  intro n
  induction n with
  | zero => intro f F W hf; omega
  | succ n ih =>
    intro f F W hfn hf hlen hg
    have HAW := Lib.hid hA
    have hle : N.length ≤ 2147483647 := by obtain ⟨_, h⟩ := hA; exact h.le
    have hkf := key_i32 (a := (f : Int)) (by omega)
    have hAW := hA.below (show Below w.heap.size w W from hg.b)
    have hl1 := hg.m.look i32_keyed Tryz.underlying193 (zero_bool W) false hkf
    rw [seenL_get] at hl1
    obtain ⟨nv, hN⟩ := hAW
    have hl2 := hN.held.look i32_keyed Tryz.underlying193 (zero_bool W) false hkf
    rw [heldL_get] at hl2
    have c1 := cell0 hg.s
    have c2 := cell0 hg.a
    have c4 := cell0 hg.k
    obtain ⟨fv, hfv, hown, ho1, ho2, ho3, ho4, ho5⟩ := hg.f
    have c3 := cell0 hfv
    have a6 : W.cell? ⟨A.a, 6, none⟩ = some (.map (some A.h)) := hN.cellAt rfl
    have HG := Lib.hid hg
    have HN := Lib.hid hN
    have HFV := Lib.hid (And.intro hfv (And.intro hown (And.intro ho1 (And.intro ho2 (And.intro ho3 (And.intro ho4 ho5))))))
    have L1 : (Instr.lookup 193 (.map (some bm)) (.int .i32 f) false).run Tryz.prog W = .ok ((if f < 2 ∨ f ∈ F then some (Value.bool true) else none).getD (.bool false)) W := hl1
    have L2 : (Instr.lookup 193 (.map (some A.h)) (.int .i32 f) false).run Tryz.prog W = .ok ((if f ∈ H then some (Value.bool true) else none).getD (.bool false)) W := hl2
    clear hl1 hl2 hg hN hfv hown ho1 ho2 ho3 ho4 ho5 hA
    by_cases hs : f < 2 ∨ f ∈ F
    · rw [if_pos hs] at L1
      have L1 : (Instr.lookup 193 (.map (some bm)) (.int .i32 f) false).run Tryz.prog W = .ok (.bool true) W := L1
      clear L2
      have HS := Lib.hid hs
      clear hs
      go_enter Tryz.func208, Tryz.ntmps208
      go_wp2
      (try simp only [Exit.inBlock, Exit.then])
      refine bodyPost_ret (results_none rfl _ _ _) rfl ?_
      refine ⟨rfl, ?_⟩
      have : dfs N H (n + 1) f F = F := by
        show (if f < 2 ∨ f ∈ F ∨ f ∈ H then F else _) = F
        rw [if_pos (by rcases HS.out with h | h; exact .inl h; exact .inr (.inl h))]
      rw [this]
      exact HG.out
    · rw [if_neg hs] at L1
      have L1 : (Instr.lookup 193 (.map (some bm)) (.int .i32 f) false).run Tryz.prog W = .ok (.bool false) W := L1
      by_cases hh : f ∈ H
      · rw [if_pos hh] at L2
        have L2 : (Instr.lookup 193 (.map (some A.h)) (.int .i32 f) false).run Tryz.prog W = .ok (.bool true) W := L2
        have HS := Lib.hid hh
        clear hs hh
        go_enter Tryz.func208, Tryz.ntmps208
        go_wp2
        (try simp only [Exit.inBlock, Exit.then])
        refine bodyPost_ret (results_none rfl _ _ _) rfl ?_
        refine ⟨rfl, ?_⟩
        have : dfs N H (n + 1) f F = F := by
          show (if f < 2 ∨ f ∈ F ∨ f ∈ H then F else _) = F
          rw [if_pos (.inr (.inr HS.out))]
        rw [this]
        exact HG.out
      · rw [if_neg hh] at L2
        have L2 : (Instr.lookup 193 (.map (some A.h)) (.int .i32 f) false).run Tryz.prog W = .ok (.bool false) W := L2
        have HS := Lib.hid hs
        have HH := Lib.hid hh
        clear hs hh
        go_enter Tryz.func208, Tryz.ntmps208
        have hf2 : 2 ≤ f := by have := HS.out; omega
        have hfF : f ∉ F := fun h => HS.out (.inr h)
        obtain ⟨Af, cf, rfl, _⟩ := owns_form HFV.out.2.1
        obtain ⟨i0, hif, hz0, hz1, hz2⟩ := info_parts Tryz.infoI32
        have hls := lt_of_block HG.out.s
        have hla := lt_of_block HG.out.a
        have hlf := lt_of_block HFV.out.1
        have HX := Lib.hid (And.intro hf2 hfF)
        clear hf2 hfF
        go_upto_region 2 with (refine wpList_mapAt rfl _ _ _ 193 4 rfl i32_keyed Tryz.underlying193 rfl (show MapAt _ _ W _ _ from HG.out.m) (.int .i32 f) (.bool true) _ rfl rfl hkf ?_; intro w1 hm1 hg1; have HM1 := Lib.hid hm1; have HG1 := Lib.hid hg1; clear hm1 hg1)
        have hz1' := HG1.out.size
        have c3' : w1.cell? ⟨bf, 0, none⟩ = some (.slice Af F.length cf) := by
          rw [cell_of_row w1 _ 0 _ _ (0, 0) ((HG1.out.block bf hlf (fun e => HG.out.ne.2.2.2.2.2.2.2.2.1 (by injection e))).trans HFV.out.1)]; rfl
        have hown1 : w1.ownsRow w.heap.size 21 1 (.slice Af F.length cf) F.length (F.map fun (i : Nat) => Value.int .i32 (i : Int)) := owns_like HFV.out.2.1 fun k hk => HG1.out.block k ((HFV.out.2.1.lt k hk).2) (fun e => HFV.out.2.2.2.2.2.2 (by rw [hk]; exact e))
        have HO1 := Lib.hid hown1
        have hbs := HG.out.b.size
        have hl5 := hlen.len
        have hl4 : F.length ≤ 1099511627776 := by omega
        clear hown1 L1 L2 c1 c2 c4 c3 a6
        go_upto_region 3 with (at_builtin; refine wpList_push2 (v := .slice Af F.length cf) rfl _ _ 270 rfl 21 i0 _ 1 4 Tryz.underlying270 hif hz0 hz1 hz2 rfl (by decide) (by decide) [.int .i32 f] rfl rfl rfl HO1.out rfl (one_i32 _) hl4 (by omega) ?_; intro v2 w2 hown2 hg2 hmv2; obtain ⟨hput, hc2⟩ := HG.out.put HFV.out.1 HFV.out.2.1 HFV.out.2.2 HM1.out HG1.out HX.out.1 HX.out.2 hown2 hg2 hmv2; obtain ⟨A2, cc2, hv2, _⟩ := owns_form hown2; subst hv2; have HPUT := Lib.hid hput; have hcell2 : w2.cell? ⟨bf, 0, none⟩ = some (.slice Af F.length cf) := cell0 hc2; have hfr2 := frozen_of_row w2 _ 0 _ _ hc2; clear hown2 hg2 hmv2 hput hc2)
        clear hcell2 hfr2
        generalize w2.setCell ⟨bf, 0, none⟩ (.slice A2 (F.length + 1) cc2) = W3 at *
        have hwf : WF N := by obtain ⟨_, h⟩ := HAW.out; exact h.wf
        have hclo := hwf.lo f HX.out.1 hf
        have hchi := hwf.hi f HX.out.1 hf
        have hok1 := hlen.snoc HX.out.1 hf HX.out.2
        have hok2 := dfs_ok hwf H n (nd N f).lo (F ++ [f]) (by omega) hok1
        have IHL := Lib.hid (fun (W4 : World) (hb : Below W3.heap.size W3 W4) => ih (nd N f).lo (F ++ [f]) W4 (by omega) (by omega) hok1 (HPUT.out.below hb))
        have IHH := Lib.hid (fun (W5 : World) (hg5 : GSt w A bs ba bf bw bm (dfs N H n (nd N f).lo (F ++ [f])) W5) (W6 : World) (hb : Below W5.heap.size W5 W6) => ih (nd N f).hi (dfs N H n (nd N f).lo (F ++ [f])) W6 (by omega) (by omega) hok2 (hg5.below hb))
        have HEQ : Hid (dfs N H (n + 1) f F = dfs N H n (nd N f).hi (dfs N H n (nd N f).lo (F ++ [f]))) := Lib.hid (by
          show (if f < 2 ∨ f ∈ F ∨ f ∈ H then F else _) = _
          rw [if_neg (by
            rintro (h | h | h)
            · exact HS.out (.inl h)
            · exact HS.out (.inr h)
            · exact HH.out h)])
        have hI : (f : Int) < (N.length : Int) := by omega
        have HWF := Lib.hid hwf
        have c1 := cell0 HPUT.out.a
        have c2 := cell0 HPUT.out.k
        obtain ⟨nv3, hA3⟩ := HAW.out.below HPUT.out.b
        obtain ⟨ng, cp, rfl, hat⟩ := hA3.at_node
        obtain ⟨_, x1, _⟩ := hat f hf
        have c3 : W3.cell? ⟨A.a, 2, none⟩ = some (.slice (some ⟨ng, 0, none⟩) N.length cp) := hA3.cellAt rfl
        clear hwf hclo hchi hok1 hok2 ih hlen hA3 hat hfn hl4 hl5 hbs hz1' c3' HO1 HM1 HG1 hls hla hlf HX HS HH HG HN HFV hkf
        have C1 := cell_regrown c1
        have C2 := cell_regrown c2
        have C3 := cell_regrown c3
        have X1 := cell_regrown x1
        refine wp_region_tail_below 9 (by kernel_rfl) (by kernel_rfl) ?_
        simp only [List.take_succ_cons, List.take_zero, List.drop_succ_cons, List.drop_zero]
        repeat (first | go_big_quiet_step (fail) | quiet_step (fail))
        refine wpQuiet_nil ?_
        intro W4 hw'
        obtain ⟨⟨nq, osq⟩, hw''⟩ := hw'
        subst hw''
        have HQ := Lib.hid (below_regrown W3 nq osq)
        clear C1 C2 C3 X1 c1 c2 c3 x1
        generalize grow (redrawn W3 nq) osq = W4 at *
        go_wp2_with fail
        refine (IHL.out W4 HQ.out).mono ?_
        rintro e W5 ⟨rfl, hg5⟩
        have HG5 := Lib.hid hg5
        clear hg5
        have c1 := cell0 HG5.out.a
        have c2 := cell0 HG5.out.k
        obtain ⟨nv5, hA5⟩ := HAW.out.below HG5.out.b
        obtain ⟨ng5, cp5, rfl, hat5⟩ := hA5.at_node
        obtain ⟨_, _, x1⟩ := hat5 f hf
        have c3 : W5.cell? ⟨A.a, 2, none⟩ = some (.slice (some ⟨ng5, 0, none⟩) N.length cp5) := hA5.cellAt rfl
        clear hA5 hat5
        go_upto_region 4 with fail
        have C1 := cell_regrown c1
        have C2 := cell_regrown c2
        have C3 := cell_regrown c3
        have X1 := cell_regrown x1
        refine wp_region_tail_below 9 (by kernel_rfl) (by kernel_rfl) ?_
        simp only [List.take_succ_cons, List.take_zero, List.drop_succ_cons, List.drop_zero]
        repeat (first | go_big_quiet_step (fail) | quiet_step (fail))
        refine wpQuiet_nil ?_
        intro W6 hw'
        obtain ⟨⟨nq2, osq2⟩, hw''⟩ := hw'
        subst hw''
        have HQ2 := Lib.hid (below_regrown W5 nq2 osq2)
        clear C1 C2 C3 X1 c1 c2 c3 x1
        generalize grow (redrawn W5 nq2) osq2 = W6 at *
        go_wp2_with fail
        refine (IHH.out W5 HG5.out W6 HQ2.out).mono ?_
        rintro e W7 ⟨rfl, hg7⟩
        have HG7 := Lib.hid hg7
        clear hg7
        go_wp2
        go_end0
        refine ⟨rfl, ?_⟩
        rw [HEQ.out]
        exact HG7.out
end Go.Proofs.YtbahehmfhjkgeaaGreat

/-
  The arena's give.
-/
namespace Go.Proofs.YtbahehmfhjkgeaaGreat
open Go Go.RowKit Go.ChangeMaps Go.MapKept Go.Maps Go.Lib Go.Sort

/-- A pair of a map's literal AT THE OPERATION. -/
theorem wpList_mapIns {P : Program} {k : TypeId} {w : World} {b : Nat} {l : List (Value × Value)} {ops : Array Oper} {rest : List Oper} {o : Oper} {a : Act} {Q : Exit → Act → World → Prop} (hg : o.guard = none) (m x v : Operand) (t e : TypeId)
    (hop : o.op = Op.insert t m x v) (K : Keyed P k) (ht : P.underlying t = some (.map k e)) (hm : a.eval m = .map (some b)) (h : MapAt P k w b l) (key val : Value) (kl : Lit) (hx : a.eval x = key) (hv : a.eval v = val) (hkey : keyOf P k key = some kl)
    (hK : ∀ w', MapAt P k w' b (putM l key val) → w.grownBy w' (some b) → wpList P ops Q rest (a.put o.dst undef) w') : wpList P ops Q (o :: rest) a w := by
  refine wpList_plain hg fun K' hK' => ?_
  obtain ⟨w', hrun, r1, r2⟩ := h.store K ht hkey val
  unfold Oper.wp
  simp [execOp, hop, hm, hx, hv, hrun, Result.andThen]
  exact hK' _ _ (hK w' r1 r2)
theorem run_store_fn {P : Program} (a : Addr) (m : Mode) (r : Fn) (ts cs : Array Value) (w : World) : (store a (.func r ts cs) m).run P w = stored P w a (.func r ts cs) m := run_store P w a _ m rfl
theorem heldL_put (H : List Nat) (g : Nat) (hg : g ∉ H) : putM (heldL H) (.int .i32 g) (.bool true) = heldL (H ++ [g]) := by
  unfold putM
  rw [if_neg (by
    rw [heldL_keys]
    intro h
    obtain ⟨x, hx, e⟩ := List.mem_map.1 h
    have : x = g := by simp at e; omega
    exact hg (this ▸ hx))]
  simp [heldL]
def addL (G : List Nat) (g : Nat) : List Nat := if g ∈ G then G else G ++ [g]
theorem givenL_put (G : List Nat) (g : Nat) : putM (givenL G) (.int .i64 g) (.bool true) = givenL (addL G g) := by
  have hk : (Value.int .i64 (g : Int)) ∈ (givenL G).map (·.1) ↔ g ∈ G := by
    unfold givenL
    rw [List.map_map]
    constructor
    · intro h
      obtain ⟨x, hx, e⟩ := List.mem_map.1 h
      have : x = g := by simp at e; omega
      exact this ▸ hx
    · intro h
      exact List.mem_map.2 ⟨g, h, rfl⟩
  unfold putM addL
  by_cases h : g ∈ G
  · rw [if_pos (hk.2 h), if_pos h]
    conv => rhs; rw [← List.map_id (givenL G)]
    refine List.map_congr_left fun p hp => ?_
    split
    · rename_i e
      unfold givenL at hp
      obtain ⟨x, _, rfl⟩ := List.mem_map.1 hp
      have : (Value.int .i64 (x : Int)) = .int .i64 (g : Int) := e
      show (Value.int .i64 (g : Int), Value.bool true) = (Value.int .i64 (x : Int), Value.bool true)
      rw [this]
    · rfl
  · rw [if_neg (fun hh => h (hk.1 hh)), if_neg h]
    simp [givenL]
/-- The held turned, and nothing else. -/
theorem ArNv.hold {w w' : World} {B : Nat} {A : Blks} {V Mo : Nat} {N : List Nd} {H H' G : List Nat} {nv : Value} (h : ArNv w B A V Mo N H G nv) (hm : MapAt Tryz.prog 21 w' A.h (heldL H')) (hg : w.grownBy w' (some A.h)) :
    ArNv w' B A V Mo N H' G nv ∧ Kept A w w' := by
  obtain ⟨n1, n2, n3, n4, n5, n6, n7, n8, n9, n10⟩ := Blks.ne h.nodup
  obtain ⟨lb, hlb, hbo⟩ := h.by_
  obtain ⟨li, hli, hio⟩ := h.ites
  have ha := lt_of_block h.cells
  have s : ∀ k, k < w.heap.size → k ≠ A.h → w'.heap[k]? = w.heap[k]? := fun k hk hki => hg.block k hk (fun e => hki (by injection e))
  refine ⟨⟨(s A.a ha n4).trans h.cells, owns_like h.row fun k hk => s k (h.row.lt k hk).2 fun e => h.off A.h (by simp [Blks.list]) (by rw [hk, e]), ⟨lb, hlb.same (s A.b hlb.lt n7), hbo⟩, ⟨li, hli.same (s A.i hli.lt n9), hio⟩,
    h.given.same (s A.g h.given.lt n10), hm, h.nodup, h.base, h.off, h.wf, h.le⟩, Kept.of_map (k := A.h) (by simp [Blks.list]) n4.symm ha hg⟩
/-- The given turned, and nothing else. -/
theorem ArNv.gift {w w' : World} {B : Nat} {A : Blks} {V Mo : Nat} {N : List Nd} {H G G' : List Nat} {nv : Value} (h : ArNv w B A V Mo N H G nv) (hm : MapAt Tryz.prog 3 w' A.g (givenL G')) (hg : w.grownBy w' (some A.g)) :
    ArNv w' B A V Mo N H G' nv ∧ Kept A w w' := by
  obtain ⟨n1, n2, n3, n4, n5, n6, n7, n8, n9, n10⟩ := Blks.ne h.nodup
  obtain ⟨lb, hlb, hbo⟩ := h.by_
  obtain ⟨li, hli, hio⟩ := h.ites
  have ha := lt_of_block h.cells
  have s : ∀ k, k < w.heap.size → k ≠ A.g → w'.heap[k]? = w.heap[k]? := fun k hk hki => hg.block k hk (fun e => hki (by injection e))
  refine ⟨⟨(s A.a ha n3).trans h.cells, owns_like h.row fun k hk => s k (h.row.lt k hk).2 fun e => h.off A.g (by simp [Blks.list]) (by rw [hk, e]), ⟨lb, hlb.same (s A.b hlb.lt n6), hbo⟩, ⟨li, hli.same (s A.i hli.lt n8), hio⟩,
    hm, h.held.same (s A.h h.held.lt n10.symm), h.nodup, h.base, h.off, h.wf, h.le⟩, Kept.of_map (k := A.g) (by simp [Blks.list]) n3.symm ha hg⟩
theorem dfs_off {N : List Nd} (H : List Nat) : ∀ (n f : Nat) (F : List Nat), (∀ i ∈ F, i ∉ H) → ∀ i ∈ dfs N H n f F, i ∉ H
  | 0, _, _, h => h
  | n + 1, f, F, h => by
    unfold dfs
    by_cases hc : f < 2 ∨ f ∈ F ∨ f ∈ H
    · rw [if_pos hc]; exact h
    · rw [if_neg hc]
      refine dfs_off H n _ _ (dfs_off H n _ _ fun i hi => ?_)
      rcases List.mem_append.1 hi with hi | hi
      · exact h i hi
      · simp at hi
        subst hi
        exact fun e => hc (.inr (.inr e))
/-- Where give's walk begins. -/
theorem GSt.start {w w1 w2 : World} {A : Blks} (hg1 : (((w.alloc (.cells #[.pointer (some ⟨A.a, 0, none⟩)] 108)).alloc (.cells #[.slice none 0 0] 270)).alloc (.map #[] 0)).grownBy w1 (some (w.heap.size + 1 + 1)))
    (hm2 : MapAt Tryz.prog 21 w2 (w.heap.size + 1 + 1) (putM (putM [] (.int .i32 0) (.bool true)) (.int .i32 1) (.bool true))) (hg2 : w1.grownBy w2 (some (w.heap.size + 1 + 1))) :
    ((w2.alloc (.cells #[.map (some (w.heap.size + 1 + 1))] 193)).alloc (.cells #[.nilFunc] 296)).heap[w2.heap.size + 1]? = some (.cells #[.nilFunc] 296 (0, 0)) ∧
      GSt w A w2.heap.size w.heap.size (w.heap.size + 1) (w2.heap.size + 1) (w.heap.size + 1 + 1) [] (((w2.alloc (.cells #[.map (some (w.heap.size + 1 + 1))] 193)).alloc (.cells #[.nilFunc] 296)).setCell ⟨w2.heap.size + 1, 0, none⟩
        (.func (.func 208) #[] #[.pointer (some ⟨w2.heap.size, 0, none⟩), .pointer (some ⟨w.heap.size, 0, none⟩), .pointer (some ⟨w.heap.size + 1, 0, none⟩), .pointer (some ⟨w2.heap.size + 1, 0, none⟩)])) := by
  have hput : putM (putM [] (.int .i32 0) (.bool true)) (.int .i32 1) (.bool true) = seenL [] := by
    unfold putM
    simp [seenL, heldL]
  rw [hput] at hm2
  have ha := blk1 w (.cells #[.pointer (some ⟨A.a, 0, none⟩)] 108)
  have hf := blk1 (w.alloc (.cells #[.pointer (some ⟨A.a, 0, none⟩)] 108)) (.cells #[.slice none 0 0] 270)
  have s1 : (w.alloc (.cells #[.pointer (some ⟨A.a, 0, none⟩)] 108)).heap.size = w.heap.size + 1 := by simp
  have s2 : ((w.alloc (.cells #[.pointer (some ⟨A.a, 0, none⟩)] 108)).alloc (.cells #[.slice none 0 0] 270)).heap.size = w.heap.size + 1 + 1 := by simp
  have s3 : (((w.alloc (.cells #[.pointer (some ⟨A.a, 0, none⟩)] 108)).alloc (.cells #[.slice none 0 0] 270)).alloc (.map #[] 0)).heap.size = w.heap.size + 1 + 1 + 1 := by simp
  rw [s1] at hf
  have z1 := hg1.size
  have z2 := hg2.size
  rw [s3] at z1
  have b1 := below1 (w.alloc (.cells #[.pointer (some ⟨A.a, 0, none⟩)] 108)) (.cells #[.slice none 0 0] 270)
  have b2 := below1 ((w.alloc (.cells #[.pointer (some ⟨A.a, 0, none⟩)] 108)).alloc (.cells #[.slice none 0 0] 270)) (.map #[] 0)
  have ha2 := blk_below b2 (blk_below b1 ha)
  have hf2 := blk_below b2 hf
  have e12 : ∀ k, k < w.heap.size + 1 + 1 → w2.heap[k]? = (((w.alloc (.cells #[.pointer (some ⟨A.a, 0, none⟩)] 108)).alloc (.cells #[.slice none 0 0] 270)).alloc (.map #[] 0)).heap[k]? := fun k hk =>
    (hg2.block k (by omega) (fun e => by injection e; omega)).trans (hg1.block k (by rw [s3]; omega) (fun e => by injection e; omega))
  have hb0 := (below2 w (.cells #[.pointer (some ⟨A.a, 0, none⟩)] 108) (.cells #[.slice none 0 0] 270)).alloc (by rw [s2]; omega) (.map #[] 0)
  generalize (((w.alloc (.cells #[.pointer (some ⟨A.a, 0, none⟩)] 108)).alloc (.cells #[.slice none 0 0] 270)).alloc (.map #[] 0)) = W0 at *
  have hs2 := blk1 w2 (.cells #[.map (some (w.heap.size + 1 + 1))] 193)
  have hw2 := blk1 (w2.alloc (.cells #[.map (some (w.heap.size + 1 + 1))] 193)) (.cells #[.nilFunc] 296)
  have s5 : (w2.alloc (.cells #[.map (some (w.heap.size + 1 + 1))] 193)).heap.size = w2.heap.size + 1 := by simp
  rw [s5] at hw2
  have b4 := below2 w2 (.cells #[.map (some (w.heap.size + 1 + 1))] 193) (.cells #[.nilFunc] 296)
  have hs3 := blk_below (below1 (w2.alloc (.cells #[.map (some (w.heap.size + 1 + 1))] 193)) (.cells #[.nilFunc] 296)) hs2
  have ha4 := blk_below b4 ((e12 w.heap.size (by omega)).trans ha2)
  have hf4 := blk_below b4 ((e12 (w.heap.size + 1) (by omega)).trans hf2)
  have hm4 := hm2.same (b4.block _ hm2.lt)
  have hb4 : Below w.heap.size w ((w2.alloc (.cells #[.map (some (w.heap.size + 1 + 1))] 193)).alloc (.cells #[.nilFunc] 296)) :=
    ⟨b4.os.trans (hg2.os.trans (hg1.os.trans hb0.os)), b4.tape.trans (hg2.tape.trans (hg1.tape.trans hb0.tape)), b4.output.trans (hg2.output.trans (hg1.output.trans hb0.output)), by have := b4.size; omega,
      fun k hk => (b4.block k (by omega)).trans ((e12 k (by omega)).trans (hb0.block k hk))⟩
  generalize (w2.alloc (.cells #[.map (some (w.heap.size + 1 + 1))] 193)).alloc (.cells #[.nilFunc] 296) = W4 at *
  have st : ∀ k, k ≠ w2.heap.size + 1 → (W4.setCell ⟨w2.heap.size + 1, 0, none⟩ (.func (.func 208) #[] #[.pointer (some ⟨w2.heap.size, 0, none⟩), .pointer (some ⟨w.heap.size, 0, none⟩), .pointer (some ⟨w.heap.size + 1, 0, none⟩), .pointer (some ⟨w2.heap.size + 1, 0, none⟩)])).heap[k]? = W4.heap[k]? := fun k hk => Below.heap_setCell W4 ⟨w2.heap.size + 1, 0, none⟩ _ k hk
  have hsz : (W4.setCell ⟨w2.heap.size + 1, 0, none⟩ (.func (.func 208) #[] #[.pointer (some ⟨w2.heap.size, 0, none⟩), .pointer (some ⟨w.heap.size, 0, none⟩), .pointer (some ⟨w.heap.size + 1, 0, none⟩), .pointer (some ⟨w2.heap.size + 1, 0, none⟩)])).heap.size = W4.heap.size := by simp [World.setCell]
  have z4 := b4.size
  have lm := hm2.lt
  have hns : w2.heap.size ≠ w.heap.size + 1 + 1 := by omega
  refine ⟨hw2, (st _ (by omega)).trans hs3, (st _ (by omega)).trans ha4, set_at hw2, ⟨.slice none 0 0, (st _ (by omega)).trans hf4, World.ownsRow_nil _ _ _ _, by simp [Value.ownBlock], by simp [Value.ownBlock], by simp [Value.ownBlock], by simp [Value.ownBlock], by simp [Value.ownBlock]⟩, hm4.same (st _ (by omega)), by omega, by omega, ⟨hb4.os, hb4.tape, hb4.output, by have := hb4.size; omega, fun k hk => (st k (by omega)).trans (hb4.block k hk)⟩⟩
def newL (N : List Nd) (H : List Nat) (f : Nat) : List Nat := dfs N H (f + 1) f []
theorem newL_ok {N : List Nd} (w : WF N) (H : List Nat) {f : Nat} (hf : f < N.length) : FOk N (newL N H f) := dfs_ok w H _ _ _ hf ⟨List.nodup_nil, by simp⟩
theorem newL_off (N : List Nd) (H : List Nat) (f : Nat) : ∀ i ∈ newL N H f, i ∉ H := dfs_off H _ _ _ (by simp)
/-- What give comes to. -/
def GiveRes (w : World) (B : Nat) (A : Blks) (V Mo : Nat) (N : List Nd) (H G : List Nat) (f : Nat) (e : Ending) (w' : World) : Prop :=
  (Mo < H.length + (newL N H f).length ∧ e = .returned (.tuple #[.int .i64 0, .int .i64 3]) ∧ ArAt w' B A V Mo N H G ∧ Kept A w w') ∨
  (H.length + (newL N H f).length ≤ Mo ∧ e = .returned (.tuple #[.int .i64 f, .int .i64 0]) ∧ ArAt w' B A V Mo N (H ++ newL N H f) (addL G f) ∧ Kept A w w')
set_option maxRecDepth 100000 in
set_option maxHeartbeats 8000000 in
theorem give_any {w : World} {B : Nat} {A : Blks} {V Mo : Nat} {N : List Nd} {H G : List Nat} (f : Nat) (hA : ArAt w B A V Mo N H G) (hf : f < N.length) (hH : FOk N H) :
    Calls Tryz.prog 179 #[A.val, .int .i32 f] w (GiveRes w B A V Mo N H G f) := by
  have hk0 := key_i32 (a := 0) (by omega)
  have hk1 := key_i32 (a := 1) (by omega)
  have hmm := @run_makeMap Tryz.prog
  have HA := Lib.hid hA
  have HH := Lib.hid hH
  clear hA hH
  unfold Blks.val
  go_enter Tryz.func179, Tryz.ntmps179
  have hM : MapAt Tryz.prog 21 (((w.alloc (.cells #[.pointer (some ⟨A.a, 0, none⟩)] 108)).alloc (.cells #[.slice none 0 0] 270)).alloc (.map #[] 0)) (w.heap.size + 1 + 1) [] := by
    have := MapAt.made Tryz.prog 21 ((w.alloc (.cells #[.pointer (some ⟨A.a, 0, none⟩)] 108)).alloc (.cells #[.slice none 0 0] 270))
    simpa using this
  go_upto_region 4 with (first
    | (refine wpList_mapIns rfl _ _ _ 193 4 rfl i32_keyed Tryz.underlying193 rfl hM (.int .i32 0) (.bool true) _ rfl rfl hk0 ?_; intro w1 hm1 hg1)
    | (refine wpList_mapIns rfl _ _ _ 193 4 rfl i32_keyed Tryz.underlying193 rfl hm1 (.int .i32 1) (.bool true) _ rfl rfl hk1 ?_; intro w2 hm2 hg2))
  obtain ⟨hbw, hst⟩ := GSt.start hg1 hm2 hg2
  have hcw := cell0 hbw
  have hfw := frozen_of_row _ _ 0 _ _ hbw
  have HST := Lib.hid hst
  clear hst hbw hm1 hg1 hm2 hg2 hM hk0 hk1 hmm
  have hrs := @run_store_fn Tryz.prog
  generalize (w2.alloc (.cells #[.map (some (w.heap.size + 1 + 1))] 193)).alloc (.cells #[.nilFunc] 296) = W4 at *
  generalize w2.heap.size + 1 = bw at *
  generalize w2.heap.size = bs at *
  go_upto_region 5 with fail
  generalize W4.setCell ⟨bw, 0, none⟩ (.func (.func 208) #[] #[.pointer (some ⟨bs, 0, none⟩), .pointer (some ⟨w.heap.size, 0, none⟩), .pointer (some ⟨w.heap.size + 1, 0, none⟩), .pointer (some ⟨bw, 0, none⟩)]) = W5 at *
  have c5 := cell0 HST.out.k
  clear hcw hfw hrs
  go_wp2_with (refine (giveWalk_any HA.out (f + 1) f [] W5 (by omega) hf ⟨List.nodup_nil, by simp⟩ HST.out).mono ?_; rintro e W6 ⟨rfl, hg6⟩; change GSt w A bs w.heap.size (w.heap.size + 1) bw (w.heap.size + 1 + 1) (newL N H f) W6 at hg6; have HG6 := Lib.hid hg6; clear hg6 HST c5)
  have hle : N.length ≤ 2147483647 := by obtain ⟨_, h⟩ := HA.out; exact h.le
  have hwf : WF N := by obtain ⟨_, h⟩ := HA.out; exact h.wf
  have hFk := newL_ok hwf H hf
  have hHl : H.length ≤ 2147483647 := by have := HH.out.len; omega
  have hFl : (newL N H f).length ≤ 2147483647 := by have := hFk.len; omega
  have HFK := Lib.hid hFk
  have HOFF := Lib.hid (newL_off N H f)
  have hfb : (f : Int) ≤ 2147483646 := by omega
  clear hFk hwf hle
  generalize hF : newL N H f = F at *
  have HFE := Lib.hid hF
  clear hF
  obtain ⟨fv, hfv, hown, _⟩ := HG6.out.f
  obtain ⟨Af, cf, rfl, hAf⟩ := owns_form hown
  obtain ⟨nv6, hA6⟩ := HA.out.below HG6.out.b
  have c0 := cell0 HG6.out.a
  have c1 := cell0 hfv
  have a1 : W6.cell? ⟨A.a, 1, none⟩ = some (.int .i64 Mo) := hA6.cellAt rfl
  have a6 : W6.cell? ⟨A.a, 6, none⟩ = some (.map (some A.h)) := hA6.cellAt rfl
  have hlen : ∀ d os, (Builtin.len_ #[193] 3 #[.map (some A.h)]).run Tryz.prog (grow (redrawn W6 d) os) = .ok (.int .i64 H.length) (grow (redrawn W6 d) os) := fun d os => by
    have := (hA6.held.same ((below_regrown W6 d os).block _ hA6.held.lt)).len Tryz.underlying193 3
    rw [show (heldL H).length = H.length from by simp [heldL]] at this
    exact this
  have HA6 := Lib.hid hA6
  have HFV := Lib.hid hfv
  have HOW := Lib.hid hown
  clear hA6 hfv hown
  have C0 := cell_regrown c0
  have C1 := cell_regrown c1
  have A1 := cell_regrown a1
  have A6 := cell_regrown a6
  refine wp_region_quiet_below (by kernel_rfl) (by kernel_rfl) ?_
  repeat (first | go_big_quiet_step (fail) | quiet_step (fail))
  refine wpQuiet_nil ?_
  intro _ hw'
  obtain ⟨⟨nq, osq⟩, hw''⟩ := hw'
  subst hw''
  have hq := below_regrown W6 nq osq
  have HG7 := Lib.hid (HG6.out.below hq)
  have HA7 := Lib.hid (HA6.out.below hq)
  have HFV7 := Lib.hid (blk_below hq HFV.out)
  have HOW7 := Lib.hid (owns_kept_none HOW.out (only_of_below hq none))
  clear C0 C1 A1 A6 c0 c1 a1 a6 hlen HG6 HA6 HFV HOW hq
  generalize grow (redrawn W6 nq) osq = W7 at *
  have HK7 := Lib.hid (Kept.of_below (A := A) HA.out.a_lt HG7.out.b)
  have HB7 : Hid (BoxAt A W7 w.heap.size (.pointer (some ⟨A.a, 0, none⟩)) 108) := Lib.hid ⟨HG7.out.a, HA.out.foreign_new HG7.out.b (Nat.le_refl _) (lt_of_block HG7.out.a)⟩
  have c1 := cell0 HFV7.out
  by_cases hM : Mo < H.length + F.length
  · have hI : (Mo : Int) < (H.length : Int) + (F.length : Int) := by omega
    have HM := Lib.hid hM
    clear hM
    go_wp2
    go_ret2
    exact .inl ⟨by rw [HFE.out]; exact HM.out, rfl, ⟨_, HA7.out⟩, HK7.out⟩
  · have hI : ¬ (Mo : Int) < (H.length : Int) + (F.length : Int) := by omega
    have HM := Lib.hid hM
    clear hM
    have HFO : Hid (∀ g, Af = some ⟨g, 0, none⟩ → Foreign A W7 g) := Lib.hid fun g hg => HA.out.foreign_new HG7.out.b (HOW7.out.lt g (by rw [hg]; rfl)).1 (HOW7.out.lt g (by rw [hg]; rfl)).2
    have HAf := Lib.hid hAf
    clear hAf
    go_wp2
    go_loopw [32] (fun i wr => ∃ k : Nat, i = .int .i64 k ∧ k ≤ F.length ∧ Hid (ArNv wr B A V Mo N (H ++ F.take k) G nv6) ∧ Hid (Kept A W7 wr)) (fun i _ => F.length - (intOf i).toNat)
    case atStart => exact ⟨0, rfl, by omega, Lib.hid (by rw [List.take_zero, List.append_nil]; exact HA7.out), Lib.hid (Kept.refl _ _)⟩
    case round =>
      obtain ⟨k, rfl, hk, HAR, HKR⟩ := hrel
      have c0 := (HB7.out.kept HKR.out).cell
      by_cases hlt : k < F.length
      · have hI2 : (k : Int) < (F.length : Int) := by omega
        obtain ⟨g, rfl⟩ := HAf.out (by omega)
        obtain ⟨x, hx⟩ : ∃ x, F[k]? = some x := ⟨_, List.getElem?_eq_getElem hlt⟩
        have hxN := (HFK.out.2 x (List.mem_of_getElem? hx))
        have hxo := HOFF.out x (List.mem_of_getElem? hx)
        have hcx : wr.cell? ⟨g, k, none⟩ = some (.int .i32 x) := by
          rw [World.cell?_of_block (w := W7) ((HKR.out.same g (HFO.out g rfl)).1)]
          exact (HOW7.out.cellAt k (by omega)).trans (by rw [List.getElem?_map, hx]; rfl)
        have a6 : wr.cell? ⟨A.a, 6, none⟩ = some (.map (some A.h)) := HAR.out.cellAt rfl
        have hkx := key_i32 (a := (x : Int)) (by have := HAR.out.le; omega)
        have htk : F.take (k + 1) = F.take k ++ [x] := by rw [List.take_add_one, hx]; rfl
        have hxt : x ∉ F.take k := fun h => by
          obtain ⟨j, hj⟩ := List.getElem?_of_mem h
          rw [List.getElem?_take] at hj
          split at hj
          · rename_i hjk
            have := HFK.out.1
            obtain ⟨l1, e1⟩ := List.getElem?_eq_some_iff.1 hj
            obtain ⟨l2, e2⟩ := List.getElem?_eq_some_iff.1 hx
            have := (List.getElem_inj this).1 (e1.trans e2.symm)
            omega
          · cases hj
        have HPUT : Hid (putM (heldL (H ++ F.take k)) (.int .i32 x) (.bool true) = heldL (H ++ F.take (k + 1))) := Lib.hid (by
          rw [heldL_put _ _ (fun h => by rcases List.mem_append.1 h with h | h; exact hxo h; exact hxt h), htk, List.append_assoc])
        clear hx hxN hxo htk hxt
        go_wp2_with (refine wpList_mapAt rfl _ _ _ 193 4 rfl i32_keyed Tryz.underlying193 rfl (show MapAt _ _ wr _ _ from HAR.out.held) (.int .i32 x) (.bool true) _ rfl rfl hkx ?_; intro w8 hm8 hg8; rw [HPUT.out] at hm8; obtain ⟨p1, p2⟩ := HAR.out.hold hm8 hg8; have P1 := Lib.hid p1; have P2 := Lib.hid p2; clear p1 p2 hm8 hg8)
        exact ⟨⟨k + 1, by go_num, by omega, P1, Lib.hid (HKR.out.trans P2.out)⟩, by simp only [intOf]; omega⟩
      · obtain rfl : k = F.length := by omega
        have hI2 : ¬ (F.length : Int) < (F.length : Int) := by omega
        have har := HAR.out
        rw [List.take_length] at har
        have HARF := Lib.hid har
        have a5 : wr.cell? ⟨A.a, 5, none⟩ = some (.map (some A.g)) := har.cellAt rfl
        have hkg := key_i64 (a := (f : Int)) (by omega)
        clear har HAR
        go_wp2_with (refine wpList_mapAt rfl _ _ _ 192 4 rfl i64_keyed Tryz.underlying192 rfl (show MapAt _ _ wr _ _ from HARF.out.given) (.int .i64 f) (.bool true) _ rfl rfl hkg ?_; intro w8 hm8 hg8; rw [givenL_put] at hm8; obtain ⟨p1, p2⟩ := HARF.out.gift hm8 hg8; have P1 := Lib.hid p1; have P2 := Lib.hid p2; clear p1 p2 hm8 hg8)
        go_ret2
        exact .inr ⟨by rw [HFE.out]; have := HM.out; omega, rfl, by rw [HFE.out]; exact ⟨_, P1.out⟩, HK7.out.trans (HKR.out.trans P2.out)⟩
end Go.Proofs.YtbahehmfhjkgeaaGreat

/-
  The arena's check, Var, Ite and what is made of it.
-/
namespace Go.Proofs.YtbahehmfhjkgeaaGreat
open Go Go.RowKit Go.ChangeMaps Go.MapKept Go.Maps Go.Lib Go.Sort

theorem givenL_get (G : List Nat) (f : Nat) : getM (givenL G) (.int .i64 f) = if f ∈ G then some (.bool true) else none := by
  induction G with
  | nil => rfl
  | cons a r ih =>
    show getM ((Value.int .i64 (a : Int), Value.bool true) :: givenL r) _ = _
    unfold getM at ih ⊢
    by_cases h : a = f
    · subst h
      rw [List.find?_cons_of_pos (by simp), if_pos (List.mem_cons_self ..)]
      rfl
    · rw [List.find?_cons_of_neg (by simp; omega), ih]
      by_cases hm : f ∈ r
      · rw [if_pos hm, if_pos (List.mem_cons_of_mem _ hm)]
      · rw [if_neg hm, if_neg (fun h' => by rcases List.mem_cons.1 h' with e | e; exact h e.symm; exact hm e)]
set_option maxRecDepth 100000 in
set_option maxHeartbeats 4000000 in
/-- Nodes that were given are nodes. -/
theorem check_any {w : World} {B : Nat} {A : Blks} {V Mo : Nat} {N : List Nd} {H G : List Nat} (hA : ArAt w B A V Mo N H G) (l : List Nat) (g c : Nat) (hv : ∀ (i x : Nat), l[i]? = some x → w.cell? ⟨g, i, none⟩ = some (.int .i64 x))
    (hG : ∀ x ∈ l, x ∈ G ∧ x ≤ 2147483647) (hl : l.length ≤ 1000) :
    Calls Tryz.prog 166 #[A.val, .slice (some ⟨g, 0, none⟩) l.length c] w fun e w' => e = .returned (.int .i64 0) ∧ Below w.heap.size w w' := by
  obtain ⟨nv, hN⟩ := hA
  have a5 : w.cell? ⟨A.a, 5, none⟩ = some (.map (some A.g)) := hN.cellAt rfl
  have HL := Lib.hid (fun (x : Nat) (hx : x ∈ l) => (show (Instr.lookup 192 (.map (some A.g)) (.int .i64 x) false).run Tryz.prog w = .ok (.bool true) w from by
    have h1 := hN.given.look i64_keyed Tryz.underlying192 (zero_bool w) false (key_i64 (a := (x : Int)) (by have := (hG x hx).2; omega))
    rw [givenL_get, if_pos (hG x hx).1] at h1
    exact h1))
  have HV := Lib.hid hv
  clear hN hv hG
  unfold Blks.val
  go_enter Tryz.func166, Tryz.ntmps166
  go_wp2
  go_loop [11] (fun i => ∃ k : Nat, i = .int .i64 k ∧ k ≤ l.length) (fun i => l.length - (intOf i).toNat)
  case atStart => exact ⟨0, rfl, by omega⟩
  case round =>
    obtain ⟨k, rfl, hk⟩ := hrel
    by_cases hlt : k < l.length
    · have hI : (k : Int) < (l.length : Int) := by omega
      obtain ⟨x, hx⟩ : ∃ x, l[k]? = some x := ⟨_, List.getElem?_eq_getElem hlt⟩
      have hc := HV.out k x hx
      have hlook := HL.out x (List.mem_of_getElem? hx)
      clear hx
      go_wp2
      exact ⟨⟨k + 1, by go_num, by omega⟩, by simp only [intOf]; omega⟩
    · obtain rfl : k = l.length := by omega
      have hI : ¬ (l.length : Int) < (l.length : Int) := by omega
      go_wp2
      go_ret
      exact ⟨rfl, Below.refl _ _⟩
/-- What an operation comes to: a node, then give. -/
def OpRes (w : World) (B : Nat) (A : Blks) (V Mo : Nat) (H G : List Nat) (T : Nat → List Nd → Prop) (e : Ending) (w' : World) : Prop :=
  ∃ (r : Nat) (N' : List Nd) (w1 : World), T r N' ∧ WF N' ∧ r < N'.length ∧ Kept A w w1 ∧ GiveRes w1 B A V Mo N' H G r e w'
theorem GiveRes.form {w : World} {B : Nat} {A : Blks} {V Mo : Nat} {N : List Nd} {H G : List Nat} {f : Nat} {e : Ending} {w' : World} (h : GiveRes w B A V Mo N H G f e w') : ∃ q c : Int, e = .returned (.tuple #[.int .i64 q, .int .i64 c]) := by
  rcases h with ⟨_, rfl, _⟩ | ⟨_, rfl, _⟩
  · exact ⟨_, _, rfl⟩
  · exact ⟨_, _, rfl⟩
theorem ext_ok {N N' : List Nd} (e : Ext N N') {F : List Nat} (h : FOk N F) : FOk N' F := ⟨h.1, fun i hi => ⟨(h.2 i hi).1, Nat.lt_of_lt_of_le (h.2 i hi).2 e.len⟩⟩
theorem new_cells (w : World) (l : List Nat) (t : TypeId) : ∀ (i x : Nat), l[i]? = some x → (w.alloc (.cells (l.map fun (n : Nat) => Value.int .i64 (n : Int)).toArray t)).cell? ⟨w.heap.size, i, none⟩ = some (.int .i64 x) := by
  intro i x hx
  have hb := blk1 w (.cells (l.map fun (n : Nat) => Value.int .i64 (n : Int)).toArray t)
  rw [cell_of_row _ _ i _ _ (0, 0) hb]
  simp [hx]
set_option maxRecDepth 100000 in
set_option maxHeartbeats 8000000 in
theorem Ite_any {w : World} {B : Nat} {A : Blks} {V Mo : Nat} {N : List Nd} {H G : List Nat} (f g h : Nat) (hA : ArAt w B A V Mo N H G) (hf : f ∈ G ∧ f < N.length) (hg : g ∈ G ∧ g < N.length) (hh : h ∈ G ∧ h < N.length) (hH : FOk N H) (hc : Cap N f g h) :
    Calls Tryz.prog 92 #[A.val, .int .i64 f, .int .i64 g, .int .i64 h] w (OpRes w B A V Mo H G (IteTo N f g h)) := by
  have hle : N.length ≤ 2147483647 := by obtain ⟨_, h⟩ := hA; exact h.le
  have hA1 := hA.below (below1 w (.cells ([f, g, h].map fun (n : Nat) => Value.int .i64 (n : Int)).toArray 3))
  have hk1 := Kept.of_below (A := A) hA.a_lt (below1 w (.cells ([f, g, h].map fun (n : Nat) => Value.int .i64 (n : Int)).toArray 3))
  have hck := check_any hA1 [f, g, h] w.heap.size 3 (new_cells w [f, g, h] 3) (by
    intro x hx
    simp at hx
    rcases hx with rfl | rfl | rfl
    · exact ⟨hf.1, by omega⟩
    · exact ⟨hg.1, by omega⟩
    · exact ⟨hh.1, by omega⟩) (by simp)
  have HA1 := Lib.hid hA1
  have HK1 := Lib.hid hk1
  have HCK := Lib.hid hck
  have HC := Lib.hid hc
  have HH := Lib.hid hH
  have f1 := hf.2
  have g1 := hg.2
  have h1 := hh.2
  have f2 : (f : Int) ≤ 2147483646 := by omega
  have g2 : (g : Int) ≤ 2147483646 := by omega
  have h2 : (h : Int) ≤ 2147483646 := by omega
  clear hA hA1 hk1 hck hc hH hf hg hh
  unfold Blks.val at *
  go_enter Tryz.func92, Tryz.ntmps92
  go_wp2_with (first
    | (refine HCK.out.mono ?_; rintro e W2 ⟨rfl, hb2⟩; have HA2 := Lib.hid (HA1.out.below hb2); have HK2 := Lib.hid (HK1.out.trans (Kept.of_below (A := A) HA1.out.a_lt hb2)); have HIT := Lib.hid (ite_any _ W2 B A V Mo N H G f g h (Nat.le_refl _) HA2.out f1 g1 h1 HC.out); unfold Blks.val at HIT; clear hb2)
    | ((with_reducible refine HIT.out.mono ?_); rintro e W3 ⟨r, N3, rfl, hto, hA3, hk3⟩; have HTO := Lib.hid hto; have HK3 := Lib.hid (HK2.out.trans hk3); have HGI := Lib.hid (give_any r hA3 hto.lt (ext_ok hto.ext HH.out)); unfold Blks.val at HGI; clear hto hA3 hk3)
    | ((with_reducible refine HGI.out.mono ?_); rintro e W4 hgv; have HGV := Lib.hid hgv; obtain ⟨q, ec, rfl⟩ := hgv.form; clear hgv))
  go_ret2
  exact ⟨r, N3, W3, HTO.out, HTO.out.wf, HTO.out.lt, HK3.out, HGV.out⟩
end Go.Proofs.YtbahehmfhjkgeaaGreat

/-
  The arena's Not, And, Or, Xor, Var.
-/
namespace Go.Proofs.YtbahehmfhjkgeaaGreat
open Go Go.RowKit Go.ChangeMaps Go.MapKept Go.Maps Go.Lib Go.Sort

theorem OpRes.form {w : World} {B : Nat} {A : Blks} {V Mo : Nat} {H G : List Nat} {T : Nat → List Nd → Prop} {e : Ending} {w' : World} (h : OpRes w B A V Mo H G T e w') : ∃ q c : Int, e = .returned (.tuple #[.int .i64 q, .int .i64 c]) := by
  obtain ⟨_, _, _, _, _, _, _, h⟩ := h
  exact h.form
section
variable {w : World} {B : Nat} {A : Blks} {V Mo : Nat} {N : List Nd} {H G : List Nat}
set_option maxRecDepth 100000
set_option maxHeartbeats 4000000
theorem Not_any (f : Nat) (hA : ArAt w B A V Mo N H G) (hf : f ∈ G ∧ f < N.length) (h0 : 0 ∈ G) (h1 : 1 ∈ G) (hH : FOk N H) (hc : Cap N f 0 1) :
    Calls Tryz.prog 53 #[A.val, .int .i64 f] w (OpRes w B A V Mo H G (IteTo N f 0 1)) := by
  have h2 : 2 ≤ N.length := by obtain ⟨_, h⟩ := hA; exact h.wf.two
  have hI := Ite_any f 0 1 hA hf ⟨h0, by omega⟩ ⟨h1, by omega⟩ hH hc
  unfold Blks.val at *
  have HI := Lib.hid hI
  clear hI hA
  go_enter Tryz.func53, Tryz.ntmps53
  go_wp2_with (refine HI.out.mono ?_; rintro e W2 ho; have HO := Lib.hid ho; obtain ⟨q, c, rfl⟩ := ho.form; clear ho)
  go_ret2
  exact HO.out
theorem And_any (f g : Nat) (hA : ArAt w B A V Mo N H G) (hf : f ∈ G ∧ f < N.length) (hg : g ∈ G ∧ g < N.length) (h0 : 0 ∈ G) (hH : FOk N H) (hc : Cap N f g 0) :
    Calls Tryz.prog 55 #[A.val, .int .i64 f, .int .i64 g] w (OpRes w B A V Mo H G (IteTo N f g 0)) := by
  have h2 : 2 ≤ N.length := by obtain ⟨_, h⟩ := hA; exact h.wf.two
  have hI := Ite_any f g 0 hA hf hg ⟨h0, by omega⟩ hH hc
  unfold Blks.val at *
  have HI := Lib.hid hI
  clear hI hA
  go_enter Tryz.func55, Tryz.ntmps55
  go_wp2_with (refine HI.out.mono ?_; rintro e W2 ho; have HO := Lib.hid ho; obtain ⟨q, c, rfl⟩ := ho.form; clear ho)
  go_ret2
  exact HO.out
theorem Or_any (f g : Nat) (hA : ArAt w B A V Mo N H G) (hf : f ∈ G ∧ f < N.length) (hg : g ∈ G ∧ g < N.length) (h1 : 1 ∈ G) (hH : FOk N H) (hc : Cap N f 1 g) :
    Calls Tryz.prog 90 #[A.val, .int .i64 f, .int .i64 g] w (OpRes w B A V Mo H G (IteTo N f 1 g)) := by
  have h2 : 2 ≤ N.length := by obtain ⟨_, h⟩ := hA; exact h.wf.two
  have hI := Ite_any f 1 g hA hf ⟨h1, by omega⟩ hg hH hc
  unfold Blks.val at *
  have HI := Lib.hid hI
  clear hI hA
  go_enter Tryz.func90, Tryz.ntmps90
  go_wp2_with (refine HI.out.mono ?_; rintro e W2 ho; have HO := Lib.hid ho; obtain ⟨q, c, rfl⟩ := ho.form; clear ho)
  go_ret2
  exact HO.out
theorem Var_any (i : Nat) (hA : ArAt w B A V Mo N H G) (hi : i < V) (hV : V ≤ 256) (hH : FOk N H) (hcap : ∀ r N', MkTo N i 0 1 r N' → N'.length ≤ 2147483647) :
    Calls Tryz.prog 177 #[A.val, .int .i64 i] w (OpRes w B A V Mo H G (MkTo N i 0 1)) := by
  have hwf : WF N := by obtain ⟨_, h⟩ := hA; exact h.wf
  have h2 := hwf.two
  have e0 : (nd N 0).v = 256 := by rw [hwf.ends 0 (by omega)]
  have e1 : (nd N 1).v = 256 := by rw [hwf.ends 1 (by omega)]
  have hM := mk_any i 0 1 hA (by omega) (by omega) (by omega) (by omega) (by omega) hcap
  have a0 : w.cell? ⟨A.a, 0, none⟩ = some (.int .i64 V) := by obtain ⟨_, h⟩ := hA; exact h.cellAt rfl
  have i1 : (i : Int) ≤ 255 := by omega
  have i2 : ¬ (i : Int) < 0 := by omega
  have i3 : ¬ (V : Int) ≤ (i : Int) := by omega
  unfold Blks.val at *
  have HM := Lib.hid hM
  have HH := Lib.hid hH
  have HW := Lib.hid (And.intro hwf (And.intro e0 e1))
  clear hM hA hcap hH hwf e0 e1
  go_enter Tryz.func177, Tryz.ntmps177
  go_wp2_with fail
  refine HM.out.mono ?_
  rintro e W2 ⟨r, N2, rfl, hm, hA2, hk2⟩
  have hgd := MkTo.good hm HW.out.1 (by omega) (by omega) (by rw [HW.out.2.1]; omega) (by rw [HW.out.2.2]; omega)
  have HMK := Lib.hid hm
  have HGD := Lib.hid hgd
  have HK := Lib.hid hk2
  have HGI := Lib.hid (give_any r hA2 hgd.2.2.1 (ext_ok hgd.1 HH.out))
  unfold Blks.val at HGI
  clear hm hA2 hk2 hgd
  go_wp2_with (refine HGI.out.mono ?_; rintro e W4 hgv; have HGV := Lib.hid hgv; obtain ⟨q, ec, rfl⟩ := hgv.form; clear hgv)
  go_ret2
  exact ⟨r, N2, W2, HMK.out, HGD.out.2.1, HGD.out.2.2.1, HK.out, HGV.out⟩
end
end Go.Proofs.YtbahehmfhjkgeaaGreat

/-
  An arena is made.
-/
namespace Go.Proofs.YtbahehmfhjkgeaaGreat
open Go Go.RowKit Go.ChangeMaps Go.MapKept Go.Maps Go.Lib Go.Sort

def N0 : List Nd := [⟨256, 0, 0⟩, ⟨256, 0, 0⟩]
theorem N0_wf : WF N0 := by
  refine ⟨by decide, fun i hi => ?_, fun i h2 hi => ?_, fun i h2 hi => ?_, fun i h2 hi => ?_, fun i h2 hi => ?_, fun i h2 hi => ?_, fun i j h2 hi => ?_⟩
  · obtain rfl | rfl : i = 0 ∨ i = 1 := by omega
    · rfl
    · rfl
  all_goals (exact absurd (show i < 2 from hi) (by omega))
theorem newArena {w w1 w2 : World} {V Mo : Nat} (hg1 : ((((w.alloc (.cells #[.int .i32 256, .int .i32 0, .int .i32 0, .int .i32 256, .int .i32 0, .int .i32 0] 188)).alloc (.map #[] 0)).alloc (.map #[] 0)).alloc (.map #[] 0)).grownBy w1 (some (w.heap.size + 1 + 1 + 1)))
    (hm2 : MapAt Tryz.prog 3 w2 (w.heap.size + 1 + 1 + 1) (putM (putM [] (.int .i64 0) (.bool true)) (.int .i64 1) (.bool true))) (hg2 : w1.grownBy w2 (some (w.heap.size + 1 + 1 + 1))) :
    ArAt ((w2.alloc (.map #[] 0)).alloc (.cells #[.int .i64 V, .int .i64 Mo, .slice (some ⟨w.heap.size, 0, none⟩) 2 2, .map (some (w.heap.size + 1)), .map (some (w.heap.size + 1 + 1)), .map (some (w.heap.size + 1 + 1 + 1)), .map (some w2.heap.size)] 195)) w.heap.size
      ⟨w2.heap.size + 1, w.heap.size + 1, w.heap.size + 1 + 1, w.heap.size + 1 + 1 + 1, w2.heap.size⟩ V Mo N0 [] [0, 1] ∧
    Below w.heap.size w ((w2.alloc (.map #[] 0)).alloc (.cells #[.int .i64 V, .int .i64 Mo, .slice (some ⟨w.heap.size, 0, none⟩) 2 2, .map (some (w.heap.size + 1)), .map (some (w.heap.size + 1 + 1)), .map (some (w.heap.size + 1 + 1 + 1)), .map (some w2.heap.size)] 195)) := by
  have hput : putM (putM [] (.int .i64 0) (.bool true)) (.int .i64 1) (.bool true) = givenL [0, 1] := by
    unfold putM
    simp [givenL]
  rw [hput] at hm2
  have hrow : (w.alloc (.cells #[.int .i32 256, .int .i32 0, .int .i32 0, .int .i32 256, .int .i32 0, .int .i32 0] 188)).ownsRow w.heap.size 188 3 (.slice (some ⟨w.heap.size, 0, none⟩) 2 2) 2 (ncells N0) :=
    World.ownsRow_lit w #[.int .i32 256, .int .i32 0, .int .i32 0, .int .i32 256, .int .i32 0, .int .i32 0] 2 (Nat.le_refl _) (by unfold maxLen; omega) rfl
  have s1 : (w.alloc (.cells #[.int .i32 256, .int .i32 0, .int .i32 0, .int .i32 256, .int .i32 0, .int .i32 0] 188)).heap.size = w.heap.size + 1 := by simp
  have hb1 := below1 w (.cells #[.int .i32 256, .int .i32 0, .int .i32 0, .int .i32 256, .int .i32 0, .int .i32 0] 188)
  generalize w.alloc (.cells #[.int .i32 256, .int .i32 0, .int .i32 0, .int .i32 256, .int .i32 0, .int .i32 0] 188) = W1 at *
  have hby := MapAt.made Tryz.prog 188 W1
  have s2 : (W1.alloc (.map #[] 0)).heap.size = w.heap.size + 1 + 1 := by simp [s1]
  have hb2 := below1 W1 (.map #[] 0)
  rw [s1] at hby
  generalize W1.alloc (.map #[] 0) = W2 at *
  have hit := MapAt.made Tryz.prog 304 W2
  have s3 : (W2.alloc (.map #[] 0)).heap.size = w.heap.size + 1 + 1 + 1 := by simp [s2]
  have hb3 := below1 W2 (.map #[] 0)
  rw [s2] at hit
  generalize W2.alloc (.map #[] 0) = W3 at *
  have s4 : (W3.alloc (.map #[] 0)).heap.size = w.heap.size + 1 + 1 + 1 + 1 := by simp [s3]
  have hb4 := below1 W3 (.map #[] 0)
  generalize W3.alloc (.map #[] 0) = W4 at *
  have z1 := hg1.size
  have z2 := hg2.size
  rw [s4] at z1
  have hhd := MapAt.made Tryz.prog 21 w2
  have s5 : (w2.alloc (.map #[] 0)).heap.size = w2.heap.size + 1 := by simp
  have hb5 := below1 w2 (.map #[] 0)
  generalize w2.alloc (.map #[] 0) = W5 at *
  have har := blk1 W5 (.cells #[.int .i64 V, .int .i64 Mo, .slice (some ⟨w.heap.size, 0, none⟩) 2 2, .map (some (w.heap.size + 1)), .map (some (w.heap.size + 1 + 1)), .map (some (w.heap.size + 1 + 1 + 1)), .map (some w2.heap.size)] 195)
  have hb6 := below1 W5 (.cells #[.int .i64 V, .int .i64 Mo, .slice (some ⟨w.heap.size, 0, none⟩) 2 2, .map (some (w.heap.size + 1)), .map (some (w.heap.size + 1 + 1)), .map (some (w.heap.size + 1 + 1 + 1)), .map (some w2.heap.size)] 195)
  rw [s5] at har
  generalize W5.alloc (.cells #[.int .i64 V, .int .i64 Mo, .slice (some ⟨w.heap.size, 0, none⟩) 2 2, .map (some (w.heap.size + 1)), .map (some (w.heap.size + 1 + 1)), .map (some (w.heap.size + 1 + 1 + 1)), .map (some w2.heap.size)] 195) = W6 at *
  rw [s1] at hb2
  rw [s2] at hb3
  rw [s3] at hb4
  rw [s5] at hb6
  have up : ∀ k, k < w2.heap.size → W6.heap[k]? = w2.heap[k]? := fun k hk => (hb6.block k (by omega)).trans (hb5.block k hk)
  have mid : ∀ k, k < w.heap.size + 1 + 1 + 1 → W6.heap[k]? = W4.heap[k]? := fun k hk =>
    (up k (by omega)).trans ((hg2.block k (by omega) (fun e => by injection e; omega)).trans (hg1.block k (by omega) (fun e => by injection e; omega)))
  have m3 : ∀ k, k < w.heap.size + 1 + 1 + 1 → W6.heap[k]? = W3.heap[k]? := fun k hk => (mid k hk).trans (hb4.block k hk)
  have m2 : ∀ k, k < w.heap.size + 1 + 1 → W6.heap[k]? = W2.heap[k]? := fun k hk => (m3 k (by omega)).trans (hb3.block k hk)
  have m1 : ∀ k, k < w.heap.size + 1 → W6.heap[k]? = W1.heap[k]? := fun k hk => (m2 k (by omega)).trans (hb2.block k hk)
  refine ⟨⟨.slice (some ⟨w.heap.size, 0, none⟩) 2 2, har, ?_, ⟨[], hby.same (m2 _ (by omega)), ?_⟩, ⟨[], hit.same (m3 _ (by omega)), ?_⟩, hm2.same (up _ (by omega)), hhd.same (hb6.block _ (by omega)), ?_, ?_, ?_, N0_wf, by decide⟩, ?_⟩
  · refine owns_like hrow fun k hk => m1 k ?_
    have : some w.heap.size = some k := hk
    injection this
    omega
  · exact ⟨fun i h2 hi => absurd (show i < 2 from hi) (by omega), fun n u hu => by cases hu⟩
  · exact fun f g k u hu => by cases hu
  · simp only [Blks.list, List.nodup_cons, List.mem_cons, List.not_mem_nil, or_false, not_or]
    refine ⟨⟨by omega, by omega, by omega, by omega⟩, ⟨by omega, by omega, by omega⟩, ⟨by omega, by omega⟩, by omega, by simp⟩
  · intro k hk
    simp only [Blks.list, List.mem_cons, List.not_mem_nil, or_false] at hk
    omega
  · intro k hk e
    have e : some w.heap.size = some k := e
    injection e with e
    simp only [Blks.list, List.mem_cons, List.not_mem_nil, or_false] at hk
    omega
  · refine ⟨hb6.os.trans (hb5.os.trans (hg2.os.trans (hg1.os.trans (hb4.os.trans (hb3.os.trans (hb2.os.trans hb1.os)))))), hb6.tape.trans (hb5.tape.trans (hg2.tape.trans (hg1.tape.trans (hb4.tape.trans (hb3.tape.trans (hb2.tape.trans hb1.tape)))))),
      hb6.output.trans (hb5.output.trans (hg2.output.trans (hg1.output.trans (hb4.output.trans (hb3.output.trans (hb2.output.trans hb1.output)))))), ?_, fun k hk => (m1 k (by omega)).trans (hb1.block k hk)⟩
    have := hb6.size
    have := hb5.size
    omega
set_option maxRecDepth 100000 in
set_option maxHeartbeats 4000000 in
theorem bddNew_any (w : World) (V Mo : Nat) (hV : V ≤ 256) (hMo : Mo ≤ 4194304) :
    Calls Tryz.prog 46 #[.int .i64 V, .int .i64 Mo] w fun e w' => ∃ A : Blks, e = .returned (.tuple #[A.val, .int .i64 0]) ∧ ArAt w' w.heap.size A V Mo N0 [] [0, 1] ∧ Below w.heap.size w w' := by
  have hk0 := key_i64 (a := 0) (by omega)
  have hk1 := key_i64 (a := 1) (by omega)
  have hmm := @run_makeMap Tryz.prog
  have g1 : ¬ (V : Int) < 0 := by omega
  have g2 : ¬ (256 : Int) < (V : Int) := by omega
  have g3 : ¬ (Mo : Int) < 0 := by omega
  have g4 : ¬ (4194304 : Int) < (Mo : Int) := by omega
  have hM : MapAt Tryz.prog 3 ((((w.alloc (.cells #[.int .i32 256, .int .i32 0, .int .i32 0, .int .i32 256, .int .i32 0, .int .i32 0] 188)).alloc (.map #[] 0)).alloc (.map #[] 0)).alloc (.map #[] 0)) (w.heap.size + 1 + 1 + 1) [] := by
    have := MapAt.made Tryz.prog 3 (((w.alloc (.cells #[.int .i32 256, .int .i32 0, .int .i32 0, .int .i32 256, .int .i32 0, .int .i32 0] 188)).alloc (.map #[] 0)).alloc (.map #[] 0))
    simpa using this
  go_enter Tryz.func46, Tryz.ntmps46
  go_wp2_with (first
    | (refine wpList_mapIns rfl _ _ _ 192 4 rfl i64_keyed Tryz.underlying192 rfl hM (.int .i64 0) (.bool true) _ rfl rfl hk0 ?_; intro w1 hm1 hg1)
    | (refine wpList_mapIns rfl _ _ _ 192 4 rfl i64_keyed Tryz.underlying192 rfl hm1 (.int .i64 1) (.bool true) _ rfl rfl hk1 ?_; intro w2 hm2 hg2))
  have hfin := Lib.hid (newArena (V := V) (Mo := Mo) hg1 hm2 hg2)
  clear hM hm1 hg1 hm2 hg2
  go_ret2
  exact ⟨_, rfl, hfin.out.1, hfin.out.2⟩
end Go.Proofs.YtbahehmfhjkgeaaGreat

/-
  A space is made.
-/
namespace Go.Proofs.YtbahehmfhjkgeaaGreat
open Go Go.RowKit Go.ChangeMaps Go.MapKept Go.Maps Go.Lib Go.Sort

/-- A space in memory. -/
structure SpAt (w : World) (B S km : Nat) (A : Blks) (Mo : Nat) (N : List Nd) (H G : List Nat) (K : List (Value × Value)) : Prop where
  ar : ArAt w B A 208 Mo N H G
  cells : w.heap[S]? = some (.cells #[.pointer (some ⟨A.a, 0, none⟩), .map (some km)] 113 (0, 0))
  fs : Foreign A w S
  known : MapAt Tryz.prog 3 w km K
  fk : Foreign A w km
  ne : S ≠ km
theorem SpAt.below {w w' : World} {B S km : Nat} {A : Blks} {Mo : Nat} {N : List Nd} {H G : List Nat} {K : List (Value × Value)} (h : SpAt w B S km A Mo N H G K) (hb : Below w.heap.size w w') : SpAt w' B S km A Mo N H G K :=
  ⟨h.ar.below hb, blk_below hb h.cells, ((Kept.of_below h.ar.a_lt hb).same _ h.fs).2, h.known.same (hb.block _ h.known.lt), ((Kept.of_below h.ar.a_lt hb).same _ h.fk).2, h.ne⟩
/-- The space behind a step of its arena. -/
theorem SpAt.step {w w' : World} {B S km : Nat} {A : Blks} {Mo : Nat} {N N' : List Nd} {H G H' G' : List Nat} {K : List (Value × Value)} (h : SpAt w B S km A Mo N H G K) (ha : ArAt w' B A 208 Mo N' H' G') (hk : Kept A w w') : SpAt w' B S km A Mo N' H' G' K :=
  ⟨ha, (hk.same _ h.fs).1.trans h.cells, (hk.same _ h.fs).2, h.known.same (hk.same _ h.fk).1, (hk.same _ h.fk).2, h.ne⟩
theorem SpAt.c0 {w : World} {B S km : Nat} {A : Blks} {Mo : Nat} {N : List Nd} {H G : List Nat} {K : List (Value × Value)} (h : SpAt w B S km A Mo N H G K) : w.cell? ⟨S, 0, none⟩ = some (.pointer (some ⟨A.a, 0, none⟩)) := by
  rw [cell_of_row w _ 0 _ _ (0, 0) h.cells]; rfl
theorem SpAt.c1 {w : World} {B S km : Nat} {A : Blks} {Mo : Nat} {N : List Nd} {H G : List Nat} {K : List (Value × Value)} (h : SpAt w B S km A Mo N H G K) : w.cell? ⟨S, 1, none⟩ = some (.map (some km)) := by
  rw [cell_of_row w _ 1 _ _ (0, 0) h.cells]; rfl
set_option maxRecDepth 100000 in
set_option maxHeartbeats 4000000 in
theorem relNew_any (w : World) (Mo : Nat) (hMo : Mo ≤ 4194304) :
    Calls Tryz.prog 8 #[.int .i64 Mo] w fun e w' => ∃ (S km : Nat) (A : Blks), e = .returned (.tuple #[.pointer (some ⟨S, 0, none⟩), .int .i64 0]) ∧ SpAt w' w.heap.size S km A Mo N0 [] [0, 1] [] ∧ Below w.heap.size w w' ∧ w.heap.size ≤ S ∧ w.heap.size ≤ km := by
  have hmm := @run_makeMap Tryz.prog
  have g3 : ¬ (Mo : Int) < 0 := by omega
  have g4 : ¬ (4194304 : Int) < (Mo : Int) := by omega
  go_enter Tryz.func8, Tryz.ntmps8
  go_wp2_with (refine (bddNew_any w 208 Mo (by omega) hMo).mono ?_; rintro e w1 ⟨A, rfl, hA, hb⟩; have HA := Lib.hid hA; have HB := Lib.hid hb; clear hA hb; unfold Blks.val)
  go_ret2
  have b2 := below2 w1 (.map #[] 0) (.cells #[.pointer (some ⟨A.a, 0, none⟩), .map (some w1.heap.size)] 113)
  have hm := (MapAt.made Tryz.prog 3 w1)
  have s1 : (w1.alloc (.map #[] 0)).heap.size = w1.heap.size + 1 := by simp
  have hc := blk1 (w1.alloc (.map #[] 0)) (.cells #[.pointer (some ⟨A.a, 0, none⟩), .map (some w1.heap.size)] 113)
  rw [s1] at hc
  have hb3 := below1 (w1.alloc (.map #[] 0)) (.cells #[.pointer (some ⟨A.a, 0, none⟩), .map (some w1.heap.size)] 113)
  have z := HB.out.size
  exact ⟨w1.heap.size + 1, w1.heap.size, A, rfl, ⟨HA.out.below b2, hc, HA.out.foreign_new b2 (by omega) (lt_of_block hc), hm.same (hb3.block _ hm.lt), HA.out.foreign_new b2 (Nat.le_refl _) (by simp; omega), by omega⟩, HB.out.trans (b2.mono z), by omega, by omega⟩
end Go.Proofs.YtbahehmfhjkgeaaGreat

/-
  The arena's Xor.
-/
namespace Go.Proofs.YtbahehmfhjkgeaaGreat
open Go Go.RowKit Go.ChangeMaps Go.MapKept Go.Maps Go.Lib Go.Sort

/-- What Xor's two steps come to. -/
def XorTo (N : List Nd) (f g r : Nat) (N' : List Nd) : Prop := ∃ (q : Nat) (N1 : List Nd), IteTo N g 0 1 q N1 ∧ IteTo N1 f q g r N'
set_option maxRecDepth 100000 in
set_option maxHeartbeats 1000000 in
theorem Xor_any {w : World} {B : Nat} {A : Blks} {V Mo : Nat} {N : List Nd} {H G : List Nat} (f g : Nat) (hA : ArAt w B A V Mo N H G) (hf : f ∈ G ∧ f < N.length) (hg : g ∈ G ∧ g < N.length) (hH : FOk N H) (hc : Cap N g 0 1)
    (hc2 : ∀ q N1, IteTo N g 0 1 q N1 → Cap N1 f q g) :
    Calls Tryz.prog 178 #[A.val, .int .i64 f, .int .i64 g] w (OpRes w B A V Mo H G (XorTo N f g)) := by
  have hle : N.length ≤ 2147483647 := by obtain ⟨_, h⟩ := hA; exact h.le
  have hN2 : 2 ≤ N.length := by obtain ⟨_, h⟩ := hA; exact h.wf.two
  have hb1 := below1 w (.cells ([f, g].map fun (n : Nat) => Value.int .i64 (n : Int)).toArray 3)
  have hA1 := hA.below hb1
  have hk1 := Kept.of_below (A := A) hA.a_lt hb1
  have hck := check_any hA1 [f, g] w.heap.size 2 (new_cells w [f, g] 3) (by
    intro x hx
    simp at hx
    rcases hx with rfl | rfl
    · exact ⟨hf.1, by omega⟩
    · exact ⟨hg.1, by omega⟩) (by simp)
  have hck : Calls Tryz.prog 166 #[.pointer (some ⟨A.a, 0, none⟩), .slice (some ⟨w.heap.size, 0, none⟩) 2 2] (w.alloc (.cells #[.int .i64 f, .int .i64 g] 3)) fun e w' => e = .returned (.int .i64 0) ∧ Below (w.alloc (.cells #[.int .i64 f, .int .i64 g] 3)).heap.size (w.alloc (.cells #[.int .i64 f, .int .i64 g] 3)) w' := hck
  have HA1 := Lib.hid hA1
  have HK1 := Lib.hid hk1
  have HCK := Lib.hid hck
  have HC := Lib.hid hc
  have HC2 := Lib.hid hc2
  have HH := Lib.hid hH
  have f1 := hf.2
  have g1 := hg.2
  have f2 : (f : Int) ≤ 2147483646 := by omega
  have g2 : (g : Int) ≤ 2147483646 := by omega
  clear hA hA1 hk1 hck hc hc2 hH hf hg hb1
  unfold Blks.val
  go_enter Tryz.func178, Tryz.ntmps178
  go_wp2_with ((with_reducible refine HCK.out.mono ?_); rintro e W2 ⟨rfl, hb2⟩; have HA2 := Lib.hid (HA1.out.below hb2); have HK2 := Lib.hid (HK1.out.trans (Kept.of_below (A := A) HA1.out.a_lt hb2)); have HIT := Lib.hid (show Calls Tryz.prog 180 #[.pointer (some ⟨A.a, 0, none⟩), .int .i32 g, .int .i32 0, .int .i32 1] W2 (IteRes W2 B A V Mo N H G g 0 1) from ite_any _ W2 B A V Mo N H G g 0 1 (Nat.le_refl _) HA2.out g1 (by omega) (by omega) HC.out); clear hb2)
  refine HIT.out.mono ?_
  rintro e W3 ⟨q, N3, rfl, hto, hA3, hk3⟩
  have HTO := Lib.hid hto
  have HK3 := Lib.hid (HK2.out.trans hk3)
  have hl3 := hto.ext.len
  have HI2 := Lib.hid (show Calls Tryz.prog 180 #[.pointer (some ⟨A.a, 0, none⟩), .int .i32 f, .int .i32 q, .int .i32 g] W3 (IteRes W3 B A V Mo N3 H G f q g) from ite_any _ W3 B A V Mo N3 H G f q g (Nat.le_refl _) hA3 (by omega) hto.lt (by omega) (HC2.out q N3 hto))
  clear hto hA3 hk3
  go_wp2_with ((with_reducible refine HI2.out.mono ?_); rintro e W4 ⟨r, N4, rfl, hto2, hA4, hk4⟩; have HTO2 := Lib.hid hto2; have HK4 := Lib.hid (HK3.out.trans hk4); have hgi := give_any r hA4 hto2.lt (ext_ok hto2.ext (ext_ok HTO.out.ext HH.out)); unfold Blks.val at hgi; have HGI := Lib.hid hgi; clear hgi hto2 hA4 hk4)
  refine HGI.out.mono ?_
  rintro e W5 hgv
  have HGV := Lib.hid hgv
  obtain ⟨q5, ec, rfl⟩ := hgv.form
  clear hgv
  go_wp2
  go_ret2
  exact ⟨r, N4, W4, ⟨q, N3, HTO.out, HTO2.out⟩, HTO2.out.wf, HTO2.out.lt, HK4.out, HGV.out⟩
end Go.Proofs.YtbahehmfhjkgeaaGreat

/-
  Diagrams, plain: how many nodes a function's diagram has at most, told by what is left of the function behind each variable. No program in sight.
-/
namespace Go.Proofs.YtbahehmfhjkgeaaGreat

abbrev Fun := (Nat → Bool) → Bool
def mixS (v : Nat) (s t : Nat → Bool) : Nat → Bool := fun u => if u < v then s u else t u
theorem mixS_low {v u : Nat} (s t : Nat → Bool) (h : u < v) : mixS v s t u = s u := by simp [mixS, h]
theorem mixS_high {v u : Nat} (s t : Nat → Bool) (h : v ≤ u) : mixS v s t u = t u := by simp [mixS]; omega
/-- What is left of a function behind the variables ahead of v. -/
def cof (F : Fun) (v : Nat) (s : Nat → Bool) : Fun := fun t => F (mixS v s t)
def CutLe (F : Fun) (v k : Nat) : Prop := ∃ L : List Fun, L.length ≤ k ∧ ∀ s, cof F v s ∈ L
def Free (F : Fun) (v : Nat) : Prop := ∀ s b, F (put s v b) = F s
def sumTo (c : Nat → Nat) : Nat → Nat
  | 0 => 0
  | n + 1 => sumTo c n + c n
def Wid (F : Fun) (k : Nat) : Prop := ∃ c : Nat → Nat, (∀ v, v < 256 → Free F v ∨ CutLe F v (c v)) ∧ sumTo c 256 ≤ k
theorem CutLe.mono {F : Fun} {v k m : Nat} (h : CutLe F v k) (hk : k ≤ m) : CutLe F v m := by
  obtain ⟨L, a, b⟩ := h
  exact ⟨L, by omega, b⟩
theorem Wid.mono {F : Fun} {k m : Nat} (h : Wid F k) (hk : k ≤ m) : Wid F m := by
  obtain ⟨c, a, b⟩ := h
  exact ⟨c, a, by omega⟩
theorem sumTo_cut (k m : Nat) : ∀ n, sumTo (fun v => if v < m then k else 0) n = min n m * k
  | 0 => by simp [sumTo]
  | n + 1 => by
    show sumTo _ n + (if n < m then k else 0) = _
    rw [sumTo_cut k m n]
    by_cases h : n < m
    · rw [if_pos h, Nat.min_eq_left (by omega), Nat.min_eq_left (by omega), Nat.add_mul, Nat.one_mul]
    · rw [if_neg h, Nat.min_eq_right (by omega), Nat.min_eq_right (by omega), Nat.add_zero]
/-- One of each. -/
theorem inj_len {α : Type} : ∀ (l : List Nat) (L : List α) (f : Nat → α), l.Nodup → (∀ i ∈ l, f i ∈ L) → (∀ i ∈ l, ∀ j ∈ l, f i = f j → i = j) → l.length ≤ L.length
  | [], _, _, _, _, _ => Nat.zero_le _
  | a :: r, L, f, hn, hm, hi => by
    obtain ⟨L1, L2, rfl⟩ := List.append_of_mem (hm a (List.mem_cons_self ..))
    rw [List.nodup_cons] at hn
    have ih := inj_len r (L1 ++ L2) f hn.2 (fun i h => by
      have h1 := hm i (List.mem_cons_of_mem _ h)
      have h2 : f i ≠ f a := fun e => hn.1 (hi i (List.mem_cons_of_mem _ h) a (List.mem_cons_self ..) e ▸ h)
      rcases List.mem_append.1 h1 with h1 | h1
      · exact List.mem_append_left _ h1
      · rcases List.mem_cons.1 h1 with h1 | h1
        · exact absurd h1 h2
        · exact List.mem_append_right _ h1) fun i h j h' => hi i (List.mem_cons_of_mem _ h) j (List.mem_cons_of_mem _ h')
    simp only [List.length_append, List.length_cons] at ih ⊢
    omega
theorem len_parts (p : Nat → Bool) : ∀ l : List Nat, l.length = (l.filter p).length + (l.filter fun i => !p i).length
  | [] => rfl
  | a :: r => by
    have := len_parts p r
    cases h : p a <;> simp [h] <;> omega
theorem by_label (lab c : Nat → Nat) : ∀ (n : Nat) (l : List Nat), (∀ i ∈ l, lab i < n) → (∀ v, v < n → (l.filter fun i => lab i = v).length ≤ c v) → l.length ≤ sumTo c n
  | 0, l, h, _ => by
    cases l with
    | nil => simp
    | cons a r => exact absurd (h a (List.mem_cons_self ..)) (by omega)
  | n + 1, l, h, hc => by
    have e := len_parts (fun i => decide (lab i < n)) l
    have ih := by_label lab c n (l.filter fun i => decide (lab i < n)) (fun i hi => by simpa using (List.mem_filter.1 hi).2) (fun v hv => by
      exact Nat.le_trans (List.filter_sublist.filter _).length_le (hc v (by omega)))
    have h2 : (l.filter fun i => !decide (lab i < n)).length ≤ c n := by
      refine Nat.le_trans (Nat.le_of_eq ?_) (hc n (by omega))
      congr 1
      refine List.filter_congr fun i hi => ?_
      have := h i hi
      by_cases hv : lab i < n
      · have : ¬ lab i = n := by omega
        simp [hv, this]
      · have : lab i = n := by omega
        simp [this]
    show l.length ≤ sumTo c n + c n
    omega
theorem Rch.lab {N : List Nd} (w : WF N) {i j : Nat} (h : Rch N i j) : (nd N i).v ≤ (nd N j).v := by
  induction h with
  | refl i => exact Nat.le_refl _
  | lo a b _ ih => have := w.vlo _ a b; omega
  | hi a b _ ih => have := w.vhi _ a b; omega
/-- A node beneath another one is what is left of it. -/
theorem Rch.path {N : List Nd} (w : WF N) {r i : Nat} (h : Rch N r i) (hr : r < N.length) : ∃ s, ∀ t, ev N (mixS (nd N i).v s t) r = ev N t i := by
  induction h with
  | refl i => exact ⟨fun _ => false, fun t => ev_agree w i _ _ hr fun v hv => mixS_high _ _ hv⟩
  | @lo r i a b h ih =>
    have h1 := w.lo _ a b
    have h2 := w.vlo _ a b
    have h3 := Rch.lab w h
    obtain ⟨s, hs⟩ := ih (by omega)
    refine ⟨put s (nd N r).v false, fun t => ?_⟩
    rw [ev_node w _ a b, mixS_low _ _ (by omega), put_same, if_neg (by simp), ← hs t]
    refine ev_agree w _ _ _ (by omega) fun v hv => ?_
    unfold mixS
    split
    · exact put_other (by omega)
    · rfl
  | @hi r i a b h ih =>
    have h1 := w.hi _ a b
    have h2 := w.vhi _ a b
    have h3 := Rch.lab w h
    obtain ⟨s, hs⟩ := ih (by omega)
    refine ⟨put s (nd N r).v true, fun t => ?_⟩
    rw [ev_node w _ a b, mixS_low _ _ (by omega), put_same, if_pos rfl, ← hs t]
    refine ev_agree w _ _ _ (by omega) fun v hv => ?_
    unfold mixS
    split
    · exact put_other (by omega)
    · rfl
theorem Rch.lt {N : List Nd} (w : WF N) {r i : Nat} (h : Rch N r i) (hr : r < N.length) : i < N.length := by
  have := h.le w hr
  omega
/-- A node hangs on its own variable. -/
theorem not_free {N : List Nd} (w : WF N) {r i : Nat} (hr : r < N.length) (h : Rch N r i) (h2 : 2 ≤ i) : ¬ Free (fun s => ev N s r) (nd N i).v := by
  intro hf
  have hi := h.lt w hr
  obtain ⟨s, hs⟩ := h.path w hr
  have a := w.lo i h2 hi
  have b := w.hi i h2 hi
  refine w.ne i h2 hi (w.canon (i + i) _ _ (by omega) (by omega) (by omega) (by omega) fun t => ?_)
  rw [← ev_lo w h2 hi t, ← ev_hi w h2 hi t, ← hs, ← hs]
  have e : ∀ b', mixS (nd N i).v s (put t (nd N i).v b') = put (mixS (nd N i).v s t) (nd N i).v b' := fun b' => funext fun u => by
    unfold mixS put
    by_cases h1 : u < (nd N i).v
    · have h3 : ¬ u = (nd N i).v := by omega
      simp [h1, h3]
    · simp [h1]
  rw [e, e]
  exact (hf (mixS (nd N i).v s t) false).trans (hf (mixS (nd N i).v s t) true).symm
/-- THE BOUND. -/
theorem wid_nodes {N : List Nd} (w : WF N) {r k : Nat} (hr : r < N.length) (hw : Wid (fun s => ev N s r) k) {l : List Nat} (hn : l.Nodup) (hl : ∀ i ∈ l, 2 ≤ i ∧ Rch N r i) : l.length ≤ k := by
  obtain ⟨c, hc, hk⟩ := hw
  refine Nat.le_trans (by_label (fun i => (nd N i).v) c 256 l (fun i hi => ?_) fun v hv => ?_) hk
  · obtain ⟨h2, h⟩ := hl i hi
    exact w.v_lt h2 (h.lt w hr)
  · have hm : ∀ i ∈ (l.filter fun i => decide ((nd N i).v = v)), i ∈ l ∧ (nd N i).v = v := fun i hi => by
      have := List.mem_filter.1 hi
      exact ⟨this.1, by simpa using this.2⟩
    rcases hc v hv with hf | ⟨L, hL, hc⟩
    · refine Nat.le_trans (Nat.le_of_eq ?_) (Nat.zero_le _)
      rw [List.length_eq_zero_iff, List.eq_nil_iff_forall_not_mem]
      intro i hi
      obtain ⟨h1, rfl⟩ := hm i hi
      exact not_free w hr (hl i h1).2 (hl i h1).1 hf
    · refine Nat.le_trans (inj_len _ L (fun i s => ev N s i) (hn.filter _) (fun i hi => ?_) fun i hi j hj e => ?_) hL
      · obtain ⟨h1, rfl⟩ := hm i hi
        obtain ⟨s, hs⟩ := (hl i h1).2.path w hr
        have := hc s
        rw [show cof (fun s => ev N s r) (nd N i).v s = fun t => ev N t i from funext hs] at this
        exact this
      · have h1 := hl i (hm i hi).1
        have h2 := hl j (hm j hj).1
        have := h1.2.lt w hr
        have := h2.2.lt w hr
        exact w.canon (i + j) i j (by omega) (by omega) (by omega) (by omega) fun s => congrFun e s
/-- What ite may leave. -/
theorem IteTo.len {N N' : List Nd} {f g h r k : Nat} (two : 2 ≤ N.length) (t : IteTo N f g h r N') (hw : Wid (fun s => if ev N s f then ev N s g else ev N s h) k) : N'.length ≤ N.length + k := by
  have hw' : Wid (fun s => ev N' s r) k := by
    rw [show (fun s => ev N' s r) = fun s => if ev N s f then ev N s g else ev N s h from funext t.sem]
    exact hw
  have hn : ((List.range (N'.length - N.length)).map (· + N.length)).Nodup := by
    refine List.Pairwise.map _ (fun a b h => ?_) List.nodup_range
    omega
  have := wid_nodes t.wf t.lt hw' hn (fun i hi => by
    simp only [List.mem_map, List.mem_range] at hi
    obtain ⟨a, ha, rfl⟩ := hi
    exact ⟨by omega, t.new _ (by omega) (by omega)⟩)
  simp at this
  omega
theorem Cap.of_wid {N : List Nd} {f g h k : Nat} (two : 2 ≤ N.length) (hw : Wid (fun s => if ev N s f then ev N s g else ev N s h) k) (hk : N.length + k ≤ 2147483647) : Cap N f g h := fun r N' t => by
  have := t.len two hw
  omega
theorem Free.op {F G H : Fun} {v : Nat} (o : Bool → Bool → Bool → Bool) (a : Free F v) (b : Free G v) (c : Free H v) : Free (fun s => o (F s) (G s) (H s)) v := fun s x => by
  show o (F (put s v x)) (G (put s v x)) (H (put s v x)) = _
  rw [a, b, c]
theorem fm_len {α β : Type} (f : α → List β) (k : Nat) (h : ∀ x, (f x).length = k) : ∀ l : List α, (l.flatMap f).length = l.length * k
  | [] => by simp
  | a :: r => by rw [List.flatMap_cons, List.length_append, h, fm_len f k h r, List.length_cons, Nat.add_mul, Nat.one_mul, Nat.add_comm]
theorem CutLe.op {F G H : Fun} {v x y z : Nat} (o : Bool → Bool → Bool → Bool) (a : CutLe F v x) (b : CutLe G v y) (c : CutLe H v z) : CutLe (fun s => o (F s) (G s) (H s)) v (x * (y * z)) := by
  obtain ⟨A, a1, a2⟩ := a
  obtain ⟨B, b1, b2⟩ := b
  obtain ⟨C, c1, c2⟩ := c
  refine ⟨A.flatMap fun f => B.flatMap fun g => C.map fun h => fun s => o (f s) (g s) (h s), ?_, fun s => ?_⟩
  · rw [fm_len _ (B.length * C.length) fun f => fm_len _ C.length (fun g => List.length_map ..) B]
    exact Nat.mul_le_mul a1 (Nat.mul_le_mul b1 c1)
  · exact List.mem_flatMap.2 ⟨_, a2 s, List.mem_flatMap.2 ⟨_, b2 s, List.mem_map.2 ⟨_, c2 s, rfl⟩⟩⟩
theorem Free.op2 {F G : Fun} {v : Nat} (o : Bool → Bool → Bool) (a : Free F v) (b : Free G v) : Free (fun s => o (F s) (G s)) v := fun s x => by
  show o (F (put s v x)) (G (put s v x)) = _
  rw [a, b]
theorem CutLe.op2 {F G : Fun} {v x y : Nat} (o : Bool → Bool → Bool) (a : CutLe F v x) (b : CutLe G v y) : CutLe (fun s => o (F s) (G s)) v (x * y) := by
  obtain ⟨A, a1, a2⟩ := a
  obtain ⟨B, b1, b2⟩ := b
  refine ⟨A.flatMap fun f => B.map fun g => fun s => o (f s) (g s), ?_, fun s => ?_⟩
  · rw [fm_len _ B.length fun f => List.length_map ..]
    exact Nat.mul_le_mul a1 b1
  · exact List.mem_flatMap.2 ⟨_, a2 s, List.mem_map.2 ⟨_, b2 s, rfl⟩⟩
theorem Free.op1 {F : Fun} {v : Nat} (o : Bool → Bool) (a : Free F v) : Free (fun s => o (F s)) v := fun s x => by
  show o (F (put s v x)) = _
  rw [a]
theorem CutLe.op1 {F : Fun} {v x : Nat} (o : Bool → Bool) (a : CutLe F v x) : CutLe (fun s => o (F s)) v x := by
  obtain ⟨A, a1, a2⟩ := a
  exact ⟨A.map fun f => fun s => o (f s), by rw [List.length_map]; exact a1, fun s => List.mem_map.2 ⟨_, a2 s, rfl⟩⟩
theorem Free.const (b : Bool) (v : Nat) : Free (fun _ => b) v := fun _ _ => rfl
theorem CutLe.const (b : Bool) (v : Nat) : CutLe (fun _ => b) v 1 := ⟨[fun _ => b], Nat.le_refl _, fun _ => List.mem_singleton.2 rfl⟩
/-- F hangs on variables from a to b alone. -/
def Hangs (F : Fun) (a b : Nat) : Prop := ∀ s t : Nat → Bool, (∀ u, a ≤ u → u < b → s u = t u) → F s = F t
theorem Hangs.free {F : Fun} {a b v : Nat} (h : Hangs F a b) (hv : v < a ∨ b ≤ v) : Free F v := fun s x => h _ _ fun u h1 h2 => put_other (by omega)
theorem Hangs.mono {F : Fun} {a b a' b' : Nat} (h : Hangs F a b) (ha : a' ≤ a) (hb : b ≤ b') : Hangs F a' b' := fun s t e => h s t fun u h1 h2 => e u (by omega) (by omega)
theorem Hangs.ahead {F : Fun} {a b v : Nat} (h : Hangs F a b) (hv : v ≤ a) : CutLe F v 1 :=
  ⟨[F], Nat.le_refl _, fun s => List.mem_singleton.2 (funext fun t => h _ _ fun u h1 h2 => mixS_high _ _ (by omega))⟩
theorem Hangs.behind {F : Fun} {a b v : Nat} (h : Hangs F a b) (hv : b ≤ v) : CutLe F v 2 := by
  refine ⟨[fun _ => false, fun _ => true], by simp, fun s => ?_⟩
  have e : cof F v s = fun _ => F s := funext fun t => h _ _ fun u h1 h2 => mixS_low _ _ (by omega)
  rw [e]
  cases F s <;> simp
theorem Hangs.op {F G H : Fun} {a b : Nat} (o : Bool → Bool → Bool → Bool) (f : Hangs F a b) (g : Hangs G a b) (h : Hangs H a b) : Hangs (fun s => o (F s) (G s) (H s)) a b := fun s t e => by
  show o (F s) (G s) (H s) = _
  rw [f s t e, g s t e, h s t e]
theorem Hangs.op2 {F G : Fun} {a b : Nat} (o : Bool → Bool → Bool) (f : Hangs F a b) (g : Hangs G a b) : Hangs (fun s => o (F s) (G s)) a b := fun s t e => by
  show o (F s) (G s) = _
  rw [f s t e, g s t e]
theorem Hangs.op1 {F : Fun} {a b : Nat} (o : Bool → Bool) (f : Hangs F a b) : Hangs (fun s => o (F s)) a b := fun s t e => by
  show o (F s) = _
  rw [f s t e]
theorem Hangs.const (x : Bool) (a b : Nat) : Hangs (fun _ => x) a b := fun _ _ _ => rfl
theorem Hangs.var (v : Nat) : Hangs (fun s => s v) v (v + 1) := fun s t e => e v (Nat.le_refl _) (by omega)
theorem Wid.of_hangs {F : Fun} {a b k : Nat} (h : Hangs F a b) (hb : b ≤ 256) (hc : ∀ v, a ≤ v → v < b → CutLe F v k) : Wid F (b * k) := by
  refine ⟨fun v => if v < b then k else 0, fun v hv => ?_, by rw [sumTo_cut, Nat.min_eq_right hb]; exact Nat.le_refl _⟩
  by_cases h1 : v < b
  · by_cases h2 : a ≤ v
    · refine .inr ?_
      simp only [h1, if_true]
      exact hc v h2 h1
    · exact .inl (h.free (.inl (by omega)))
  · exact .inl (h.free (.inr (by omega)))
/-- Only the variables of the nodes beneath count. -/
theorem ev_sup {N : List Nd} (w : WF N) : ∀ (i : Nat) (s t : Nat → Bool), i < N.length → (∀ j, 2 ≤ j → Rch N i j → s (nd N j).v = t (nd N j).v) → ev N s i = ev N t i := by
  intro i
  induction i using Nat.strongRecOn with
  | _ i ih =>
    intro s t hi hst
    rcases Nat.lt_or_ge i 2 with h2 | h2
    · obtain rfl | rfl : i = 0 ∨ i = 1 := by omega
      · rfl
      · rfl
    · rw [ev_node w s h2 hi, ev_node w t h2 hi, hst i h2 (.refl i)]
      have a := w.lo i h2 hi
      have b := w.hi i h2 hi
      rw [ih _ a s t (by omega) (fun j hj h => hst j hj (.lo h2 hi h)), ih _ b s t (by omega) (fun j hj h => hst j hj (.hi h2 hi h))]
theorem free_of {N : List Nd} (w : WF N) {i v : Nat} (hi : i < N.length) (h : ∀ j, 2 ≤ j → Rch N i j → (nd N j).v ≠ v) : Free (fun s => ev N s i) v := fun _ _ =>
  ev_sup w i _ _ hi fun j hj hr => put_other (h j hj hr)
end Go.Proofs.YtbahehmfhjkgeaaGreat

/-
  What give's walk comes to: just the nodes beneath that are not held; how many these are.
-/
namespace Go.Proofs.YtbahehmfhjkgeaaGreat

theorem dfs_sub {N : List Nd} (H : List Nat) : ∀ (n f : Nat) (F : List Nat), ∀ i ∈ F, i ∈ dfs N H n f F
  | 0, _, _, _, h => h
  | n + 1, f, F, i, h => by
    unfold dfs
    by_cases hc : f < 2 ∨ f ∈ F ∨ f ∈ H
    · rw [if_pos hc]; exact h
    · rw [if_neg hc]
      exact dfs_sub H n _ _ i (dfs_sub H n _ _ i (List.mem_append_left _ h))
theorem dfs_rch {N : List Nd} (w : WF N) (H : List Nat) : ∀ (n f : Nat) (F : List Nat), f < N.length → ∀ i ∈ dfs N H n f F, i ∈ F ∨ 2 ≤ i ∧ Rch N f i
  | 0, _, _, _, _, h => .inl h
  | n + 1, f, F, hf, i, h => by
    unfold dfs at h
    by_cases hc : f < 2 ∨ f ∈ F ∨ f ∈ H
    · rw [if_pos hc] at h; exact .inl h
    · rw [if_neg hc] at h
      have h2 : 2 ≤ f := by omega
      have a := w.lo f h2 hf
      have b := w.hi f h2 hf
      rcases dfs_rch w H n _ _ (by omega) i h with h | ⟨h3, h⟩
      · rcases dfs_rch w H n _ _ (by omega) i h with h | ⟨h3, h⟩
        · rcases List.mem_append.1 h with h | h
          · exact .inl h
          · obtain rfl := List.mem_singleton.1 h
            exact .inr ⟨h2, .refl i⟩
        · exact .inr ⟨h3, .lo h2 hf h⟩
      · exact .inr ⟨h3, .hi h2 hf h⟩
/-- All that stands beneath one of the list is an end, or in the list. -/
def Cl (N : List Nd) (H : List Nat) : Prop := ∀ i ∈ H, ((nd N i).lo < 2 ∨ (nd N i).lo ∈ H) ∧ ((nd N i).hi < 2 ∨ (nd N i).hi ∈ H)
theorem dfs_cl {N : List Nd} (w : WF N) (H : List Nat) : ∀ (n f : Nat) (F : List Nat), f < n → f < N.length →
    (f < 2 ∨ f ∈ dfs N H n f F ∨ f ∈ H) ∧ ∀ i ∈ dfs N H n f F, i ∈ F ∨ ((nd N i).lo < 2 ∨ (nd N i).lo ∈ dfs N H n f F ∨ (nd N i).lo ∈ H) ∧ ((nd N i).hi < 2 ∨ (nd N i).hi ∈ dfs N H n f F ∨ (nd N i).hi ∈ H)
  | 0, _, _, h, _ => by omega
  | n + 1, f, F, hn, hf => by
    have hu : dfs N H (n + 1) f F = if f < 2 ∨ f ∈ F ∨ f ∈ H then F else dfs N H n (nd N f).hi (dfs N H n (nd N f).lo (F ++ [f])) := rfl
    by_cases hc : f < 2 ∨ f ∈ F ∨ f ∈ H
    · rw [hu, if_pos hc]
      exact ⟨hc, fun i h => .inl h⟩
    · rw [hu, if_neg hc]
      have h2 : 2 ≤ f := by omega
      have a := w.lo f h2 hf
      have b := w.hi f h2 hf
      obtain ⟨p1, p2⟩ := dfs_cl w H n (nd N f).lo (F ++ [f]) (by omega) (by omega)
      obtain ⟨q1, q2⟩ := dfs_cl w H n (nd N f).hi (dfs N H n (nd N f).lo (F ++ [f])) (by omega) (by omega)
      have sub := dfs_sub (N := N) H n (nd N f).hi (dfs N H n (nd N f).lo (F ++ [f]))
      have sub1 := dfs_sub (N := N) H n (nd N f).lo (F ++ [f])
      have up : ∀ c, (c < 2 ∨ c ∈ dfs N H n (nd N f).lo (F ++ [f]) ∨ c ∈ H) → (c < 2 ∨ c ∈ dfs N H n (nd N f).hi (dfs N H n (nd N f).lo (F ++ [f])) ∨ c ∈ H) := fun c h => by
        rcases h with h | h | h
        · exact .inl h
        · exact .inr (.inl (sub c h))
        · exact .inr (.inr h)
      refine ⟨.inr (.inl (sub f (sub1 f (by simp)))), fun i h => ?_⟩
      rcases q2 i h with h | h
      · rcases p2 i h with h | h
        · rcases List.mem_append.1 h with h | h
          · exact .inl h
          · obtain rfl := List.mem_singleton.1 h
            exact .inr ⟨up _ p1, q1⟩
        · exact .inr ⟨up _ h.1, up _ h.2⟩
      · exact .inr h
theorem newL_cl {N : List Nd} (w : WF N) {H : List Nat} (hH : Cl N H) {f : Nat} (hf : f < N.length) : Cl N (H ++ newL N H f) ∧ (2 ≤ f → f ∈ H ++ newL N H f) := by
  obtain ⟨p, q⟩ := dfs_cl w H (f + 1) f [] (by omega) hf
  have tr : ∀ c, (c < 2 ∨ c ∈ newL N H f ∨ c ∈ H) → (c < 2 ∨ c ∈ H ++ newL N H f) := fun c h => by
    rcases h with h | h | h
    · exact .inl h
    · exact .inr (List.mem_append_right _ h)
    · exact .inr (List.mem_append_left _ h)
  refine ⟨fun i hi => ?_, fun h2 => ?_⟩
  · rcases List.mem_append.1 hi with h | h
    · obtain ⟨a, b⟩ := hH i h
      exact ⟨tr _ (by rcases a with a | a; exact .inl a; exact .inr (.inr a)), tr _ (by rcases b with a | a; exact .inl a; exact .inr (.inr a))⟩
    · rcases q i h with h | h
      · cases h
      · exact ⟨tr _ h.1, tr _ h.2⟩
  · rcases tr f p with h | h
    · omega
    · exact h
theorem Cl.rch {N : List Nd} {H : List Nat} (hH : Cl N H) {f i : Nat} (h : Rch N f i) : f ∈ H → 2 ≤ i → i ∈ H := by
  induction h with
  | refl i => intro a _; exact a
  | @lo f i a b h ih =>
    intro hf h2
    rcases (hH f hf).1 with hc | hc
    · have := h.low hc; omega
    · exact ih hc h2
  | @hi f i a b h ih =>
    intro hf h2
    rcases (hH f hf).2 with hc | hc
    · have := h.low hc; omega
    · exact ih hc h2
theorem Cl.ext {N N' : List Nd} (e : Ext N N') {H : List Nat} (hH : Cl N H) (hl : ∀ i ∈ H, i < N.length) : Cl N' H := fun i hi => by
  rw [e.nd (hl i hi)]
  exact hH i hi
/-- below's list: all inner nodes beneath. -/
theorem mem_all {N : List Nd} (w : WF N) {f : Nat} (hf : f < N.length) (i : Nat) : i ∈ dfs N [] (f + 1) f [] ↔ 2 ≤ i ∧ Rch N f i := by
  constructor
  · intro h
    rcases dfs_rch w [] _ _ _ hf i h with h | h
    · cases h
    · exact h
  · rintro ⟨h2, h⟩
    have hc : Cl N (dfs N [] (f + 1) f []) := fun i hi => by
      rcases (dfs_cl w [] (f + 1) f [] (by omega) hf).2 i hi with h | ⟨a, b⟩
      · cases h
      · refine ⟨?_, ?_⟩
        · rcases a with a | a | a
          · exact .inl a
          · exact .inr a
          · cases a
        · rcases b with a | a | a
          · exact .inl a
          · exact .inr a
          · cases a
    have h0 : f ∈ dfs N [] (f + 1) f [] := by
      rcases (dfs_cl w [] (f + 1) f [] (by omega) hf).1 with a | a | a
      · have := h.low a; omega
      · exact a
      · cases a
    exact hc.rch h h0 h2
theorem newL_wid {N : List Nd} (w : WF N) (H : List Nat) {r k : Nat} (hr : r < N.length) (hw : Wid (fun s => ev N s r) k) : (newL N H r).length ≤ k :=
  wid_nodes w hr hw (newL_ok w H hr).1 fun i hi => by
    rcases dfs_rch w H _ _ _ hr i hi with h | h
    · cases h
    · exact h
theorem newL_old {N : List Nd} {H : List Nat} {r : Nat} (h : r < 2 ∨ r ∈ H) : newL N H r = [] := by
  show (if r < 2 ∨ r ∈ ([] : List Nat) ∨ r ∈ H then [] else _) = []
  rw [if_pos (by rcases h with h | h; exact .inl h; exact .inr (.inr h))]
theorem dfs_stop {N : List Nd} {H : List Nat} {n f : Nat} {F : List Nat} (h : f < 2 ∨ f ∈ H) : dfs N H n f F = F := by
  cases n with
  | zero => rfl
  | succ n =>
    show (if f < 2 ∨ f ∈ F ∨ f ∈ H then F else _) = F
    rw [if_pos (by rcases h with h | h; exact .inl h; exact .inr (.inr h))]
theorem newL_step {N : List Nd} {H : List Nat} {r : Nat} (hl : (nd N r).lo < 2 ∨ (nd N r).lo ∈ H) (hh : (nd N r).hi < 2 ∨ (nd N r).hi ∈ H) : (newL N H r).length ≤ 1 := by
  show (if r < 2 ∨ r ∈ ([] : List Nat) ∨ r ∈ H then [] else dfs N H r (nd N r).hi (dfs N H r (nd N r).lo ([] ++ [r]))).length ≤ 1
  split
  · simp
  · rw [dfs_stop hl, dfs_stop hh]
    simp
/-- How the nodes, and the held, may grow by an answer that is F. -/
def Grow (N : List Nd) (H : List Nat) (F : Fun) (k m : Nat) : Prop :=
  ∀ r N', Ext N N' → WF N' → r < N'.length → (∀ s, ev N' s r = F s) → (∀ i, N.length ≤ i → i < N'.length → Rch N' r i) → N'.length ≤ N.length + k ∧ (newL N' H r).length ≤ m
theorem new_len {N N' : List Nd} {r k : Nat} (two : 2 ≤ N.length) (w : WF N') (hr : r < N'.length) (hw : Wid (fun s => ev N' s r) k) (hn : ∀ i, N.length ≤ i → i < N'.length → Rch N' r i) : N'.length ≤ N.length + k := by
  have hd : ((List.range (N'.length - N.length)).map (· + N.length)).Nodup := by
    refine List.Pairwise.map _ (fun a b h => ?_) List.nodup_range
    omega
  have := wid_nodes w hr hw hd (fun i hi => by
    simp only [List.mem_map, List.mem_range] at hi
    obtain ⟨a, ha, rfl⟩ := hi
    exact ⟨by omega, hn _ (by omega) (by omega)⟩)
  simp at this
  omega
theorem Grow.wid {N : List Nd} {H : List Nat} {F : Fun} {k : Nat} (two : 2 ≤ N.length) (hw : Wid F k) : Grow N H F k k := fun r N' e w hr hs hn => by
  have hw' : Wid (fun s => ev N' s r) k := by
    rw [show (fun s => ev N' s r) = F from funext hs]
    exact hw
  exact ⟨new_len two w hr hw' hn, newL_wid w H hr hw'⟩
theorem Grow.mono {N : List Nd} {H : List Nat} {F : Fun} {k m k' m' : Nat} (h : Grow N H F k m) (hk : k ≤ k') (hm : m ≤ m') : Grow N H F k' m' := fun r N' e w hr hs hn => by
  have := h r N' e w hr hs hn
  omega
/-- A function that has a node. -/
theorem Grow.old {N : List Nd} {H : List Nat} {g : Nat} (w : WF N) (hg : g < N.length) (hh : g < 2 ∨ g ∈ H) : Grow N H (fun s => ev N s g) 0 0 := fun r N' e w' hr hs hn => by
  have hl := e.len
  have : r = g := w'.canon (r + g) r g (by omega) (by omega) hr (by omega) fun s => (hs s).trans (e.ev w w' s hg).symm
  subst this
  rw [newL_old hh]
  refine ⟨?_, Nat.le_refl _⟩
  rcases Nat.lt_or_ge N.length N'.length with h | h
  · have := (hn N.length (Nat.le_refl _) h).le w' hr
    omega
  · omega
/-- One variable ahead of two functions that have nodes. -/
theorem Grow.step {N : List Nd} {H : List Nat} {v g h : Nat} (w : WF N) (hv : v < 256) (hg : g < N.length) (hh : h < N.length) (gv : v < (nd N g).v) (hv' : v < (nd N h).v) (gh : g < 2 ∨ g ∈ H) (hhh : h < 2 ∨ h ∈ H) : Grow N H (fun s => if s v then ev N s g else ev N s h) 1 1 := fun r N' e w' hr hs hn => by
  have hs : ∀ s, ev N' s r = if s v then ev N s g else ev N s h := hs
  have hl := e.len
  by_cases hgh : g = h
  · subst hgh
    have := Grow.old (H := H) w hg gh r N' e w' hr (fun s => by rw [hs]; cases s v <;> rfl) hn
    omega
  · have low : ∀ i, i < N.length → ∀ j, Rch N' i j → j < N.length := fun i hi j hj => by
      have := hj.le w' (by omega)
      omega
    have h2 : 2 ≤ r := by
      rcases Nat.lt_or_ge r 2 with h2 | h2
      · exfalso
        refine hgh (w'.canon (g + h) g h (by omega) (by omega) (by omega) (by omega) fun s => ?_)
        have e1 := hs (put s v true)
        have e2 := hs (put s v false)
        rw [put_same, if_pos rfl] at e1
        rw [put_same, if_neg (by simp)] at e2
        rw [e.ev w w' s hg, e.ev w w' s hh, ← ev_put w hg gv s true, ← ev_put w hh hv' s false, ← e1, ← e2]
        obtain rfl | rfl : r = 0 ∨ r = 1 := by omega
        · rfl
        · rfl
      · exact h2
    have hlab : (nd N' r).v = v := by
      have hle : v ≤ (nd N' r).v := w'.level hr (by omega) fun s t hst => by
        rw [hs, hs, hst v (Nat.le_refl _), ev_agree w g s t hg fun u hu => hst u (by omega), ev_agree w h s t hh fun u hu => hst u (by omega)]
      rcases Nat.lt_or_ge v (nd N' r).v with hlt | hge
      · exfalso
        refine hgh (w'.canon (g + h) g h (by omega) (by omega) (by omega) (by omega) fun s => ?_)
        have e1 := hs (put s v true)
        have e2 := hs (put s v false)
        rw [put_same, if_pos rfl] at e1
        rw [put_same, if_neg (by simp)] at e2
        rw [e.ev w w' s hg, e.ev w w' s hh, ← ev_put w hg gv s true, ← ev_put w hh hv' s false, ← e1, ← e2, ev_put w' hr hlt, ev_put w' hr hlt]
      · omega
    have a := w'.lo r h2 hr
    have b := w'.hi r h2 hr
    have hlo : (nd N' r).lo = h := w'.canon ((nd N' r).lo + h) _ _ (by omega) (by omega) (by omega) (by omega) fun s => by
      rw [← ev_lo w' h2 hr s, hlab, hs, put_same, if_neg (by simp), ev_put w hh hv', e.ev w w' s hh]
    have hhi : (nd N' r).hi = g := w'.canon ((nd N' r).hi + g) _ _ (by omega) (by omega) (by omega) (by omega) fun s => by
      rw [← ev_hi w' h2 hr s, hlab, hs, put_same, if_pos rfl, ev_put w hg gv, e.ev w w' s hg]
    refine ⟨?_, newL_step (by rw [hlo]; exact hhh) (by rw [hhi]; exact gh)⟩
    have one : ∀ i, N.length ≤ i → i < N'.length → i = r := fun i h1 h3 => by
      have hr' := hn i h1 h3
      cases hr' with
      | refl => rfl
      | lo _ _ h' => rw [hlo] at h'; have := low _ hh _ h'; omega
      | hi _ _ h' => rw [hhi] at h'; have := low _ hg _ h'; omega
    rcases Nat.lt_or_ge (N.length + 1) N'.length with h4 | h4
    · have := one N.length (Nat.le_refl _) (by omega)
      have := one (N.length + 1) (by omega) h4
      omega
    · exact h4
theorem Grow.cap {N : List Nd} {H : List Nat} {f g h k m : Nat} (hg : Grow N H (fun s => if ev N s f then ev N s g else ev N s h) k m) (hk : N.length + k ≤ 2147483647) : Cap N f g h := fun r N' t => by
  have := hg r N' t.ext t.wf t.lt t.sem t.new
  omega
end Go.Proofs.YtbahehmfhjkgeaaGreat

/-
  A space and what its nodes say.
-/
namespace Go.Proofs.YtbahehmfhjkgeaaGreat
open Go Go.RowKit Go.ChangeMaps Go.MapKept Go.Maps Go.Lib Go.Sort

/-- What a space has: nodes, the held, the given, what is known. -/
structure Sg where
  N : List Nd
  H : List Nat
  G : List Nat
  K : List (Value × Value)
def IsSet (N : List Nd) (g : Nat) : Prop := ∀ v, v % 2 = 1 → Free (fun s => ev N s g) v
structure SgOk (Mo : Nat) (σ : Sg) : Prop where
  wf : WF σ.N
  hok : FOk σ.N σ.H
  cl : Cl σ.N σ.H
  g : ∀ g ∈ σ.G, g < σ.N.length ∧ (g < 2 ∨ g ∈ σ.H) ∧ Hangs (fun s => ev σ.N s g) 0 208
  g0 : 0 ∈ σ.G
  g1 : 1 ∈ σ.G
  k : ∀ p ∈ σ.K, ∃ g ∈ σ.G, p.1 = .int .i64 (g : Int) ∧ (p.2 = .int .i64 1 ∨ p.2 = .int .i64 2 ∧ IsSet σ.N g)
  mo : σ.H.length ≤ Mo
  le : σ.N.length ≤ 2147483647
structure SpOk (w : World) (B S km : Nat) (A : Blks) (Mo : Nat) (σ : Sg) : Prop where
  sp : SpAt w B S km A Mo σ.N σ.H σ.G σ.K
  ok : SgOk Mo σ
/-- The space went on: at most k nodes more, at most m more held. -/
structure To (k m : Nat) (σ τ : Sg) : Prop where
  ext : Ext σ.N τ.N
  nl : τ.N.length ≤ σ.N.length + k
  hl : τ.H.length ≤ σ.H.length + m
  g : ∀ g ∈ σ.G, g ∈ τ.G
  h : ∀ g ∈ σ.H, g ∈ τ.H
theorem To.refl (σ : Sg) : To 0 0 σ σ := ⟨Ext.refl _, Nat.le_refl _, Nat.le_refl _, fun _ h => h, fun _ h => h⟩
theorem To.trans {k m k' m' : Nat} {a b c : Sg} (h : To k m a b) (g : To k' m' b c) : To (k + k') (m + m') a c :=
  ⟨h.ext.trans g.ext, by have := h.nl; have := g.nl; omega, by have := h.hl; have := g.hl; omega, fun x hx => g.g x (h.g x hx), fun x hx => g.h x (h.h x hx)⟩
theorem To.mono {k m k' m' : Nat} {a b : Sg} (h : To k m a b) (hk : k ≤ k') (hm : m ≤ m') : To k' m' a b :=
  ⟨h.ext, by have := h.nl; omega, by have := h.hl; omega, h.g, h.h⟩
/-- A given node says F. -/
def Den (σ : Sg) (g : Nat) (F : Fun) : Prop := g ∈ σ.G ∧ ∀ s, ev σ.N s g = F s
theorem Den.to {k m Mo Mo' : Nat} {σ τ : Sg} {g : Nat} {F : Fun} (h : Den σ g F) (t : To k m σ τ) (o : SgOk Mo σ) (p : SgOk Mo' τ) : Den τ g F :=
  ⟨t.g g h.1, fun s => (t.ext.ev o.wf p.wf s (o.g g h.1).1).trans (h.2 s)⟩
theorem Den.zero {Mo : Nat} {σ : Sg} (o : SgOk Mo σ) : Den σ 0 (fun _ => false) := ⟨o.g0, fun _ => rfl⟩
theorem Den.one {Mo : Nat} {σ : Sg} (o : SgOk Mo σ) : Den σ 1 (fun _ => true) := ⟨o.g1, fun _ => rfl⟩
theorem Den.hangs {Mo : Nat} {σ : Sg} {g : Nat} {F : Fun} (h : Den σ g F) (o : SgOk Mo σ) : Hangs F 0 208 := by
  have := (o.g g h.1).2.2
  rw [show (fun s => ev σ.N s g) = F from funext h.2] at this
  exact this
/-- One node for one function. -/
theorem Den.same {Mo : Nat} {σ : Sg} {g h : Nat} {F : Fun} (a : Den σ g F) (b : Den σ h F) (o : SgOk Mo σ) : g = h :=
  o.wf.canon (g + h) g h (by omega) (by omega) (o.g g a.1).1 (o.g h b.1).1 fun s => (a.2 s).trans (b.2 s).symm
theorem Den.level {Mo : Nat} {σ : Sg} {g v : Nat} {F : Fun} (h : Den σ g F) (o : SgOk Mo σ) (hF : Hangs F (v + 1) 256) (hv : v < 256) : v < (nd σ.N g).v :=
  o.wf.level (o.g g h.1).1 (m := v + 1) (by omega) fun s t e => by
    rw [h.2, h.2]
    exact hF s t fun u h1 _ => e u h1
theorem Den.grow {Mo : Nat} {σ : Sg} {g : Nat} {F : Fun} (h : Den σ g F) (o : SgOk Mo σ) : Grow σ.N σ.H F 0 0 := by
  have := Grow.old (H := σ.H) o.wf (o.g g h.1).1 (o.g g h.1).2.1
  rw [show (fun s => ev σ.N s g) = F from funext h.2] at this
  exact this
theorem Den.step {Mo : Nat} {σ : Sg} {g h v : Nat} {F G : Fun} (a : Den σ g F) (b : Den σ h G) (o : SgOk Mo σ) (hv : v < 208) (hF : Hangs F (v + 1) 256) (hG : Hangs G (v + 1) 256) : Grow σ.N σ.H (fun s => if s v then F s else G s) 1 1 := by
  have := Grow.step (H := σ.H) o.wf (by omega : v < 256) (o.g g a.1).1 (o.g h b.1).1 (a.level o hF (by omega)) (b.level o hG (by omega)) (o.g g a.1).2.1 (o.g h b.1).2.1
  rw [show (fun s : Nat → Bool => if s v then ev σ.N s g else ev σ.N s h) = fun s => if s v then F s else G s from funext fun s => by rw [a.2, b.2]] at this
  exact this
/-- A node that is the answer F of an operation. -/
structure Ans (N : List Nd) (F : Fun) (r : Nat) (N' : List Nd) : Prop where
  ext : Ext N N'
  wf : WF N'
  lt : r < N'.length
  sem : ∀ s, ev N' s r = F s
  new : ∀ i, N.length ≤ i → i < N'.length → Rch N' r i
theorem IteTo.ans {N N' : List Nd} {f g h r : Nat} (t : IteTo N f g h r N') : Ans N (fun s => if ev N s f then ev N s g else ev N s h) r N' := ⟨t.ext, t.wf, t.lt, t.sem, t.new⟩
/-- Nothing but the space has turned. -/
structure KeptS (A : Blks) (km : Nat) (w w' : World) : Prop where
  os : w'.os = w.os
  tape : w'.tape = w.tape
  output : w'.output = w.output
  size : w.heap.size ≤ w'.heap.size
  same : ∀ k, Foreign A w k → k ≠ km → w'.heap[k]? = w.heap[k]? ∧ Foreign A w' k
theorem KeptS.refl (A : Blks) (km : Nat) (w : World) : KeptS A km w w := ⟨rfl, rfl, rfl, Nat.le_refl _, fun _ h _ => ⟨rfl, h⟩⟩
theorem KeptS.trans {A : Blks} {km : Nat} {a b c : World} (h : KeptS A km a b) (g : KeptS A km b c) : KeptS A km a c :=
  ⟨g.os.trans h.os, g.tape.trans h.tape, g.output.trans h.output, Nat.le_trans h.size g.size, fun k hk hn => ⟨(g.same k (h.same k hk hn).2 hn).1.trans (h.same k hk hn).1, (g.same k (h.same k hk hn).2 hn).2⟩⟩
theorem Kept.space {A : Blks} {w w' : World} (h : Kept A w w') (km : Nat) : KeptS A km w w' := ⟨h.os, h.tape, h.output, h.size, fun k hk _ => h.same k hk⟩
theorem SpOk.below {w w' : World} {B S km : Nat} {A : Blks} {Mo : Nat} {σ : Sg} (h : SpOk w B S km A Mo σ) (hb : Below w.heap.size w w') : SpOk w' B S km A Mo σ := ⟨h.sp.below hb, h.ok⟩
theorem SpOk.kept {w w' : World} {B S km : Nat} {A : Blks} {Mo : Nat} {σ : Sg} (h : SpOk w B S km A Mo σ) (hb : Below w.heap.size w w') : KeptS A km w w' := (Kept.of_below h.sp.ar.a_lt hb).space km
/-- What a call on a space comes to: F's node, or no room. -/
def SpRes (w : World) (B S km : Nat) (A : Blks) (Mo : Nat) (σ : Sg) (F : Fun) (k m : Nat) (e : Ending) (w' : World) : Prop :=
  KeptS A km w w' ∧ ((e = .returned (.tuple #[.int .i64 0, .int .i64 3]) ∧ Mo < σ.H.length + m ∧ ∃ τ, SpOk w' B S km A Mo τ ∧ To k m σ τ) ∨
    ∃ (r : Nat) (τ : Sg), e = .returned (.tuple #[.int .i64 r, .int .i64 0]) ∧ SpOk w' B S km A Mo τ ∧ To k m σ τ ∧ Den τ r F)
theorem SpOk.op' {w : World} {B S km : Nat} {A : Blks} {Mo : Nat} {σ : Sg} (h : SpOk w B S km A Mo σ) {T : Nat → List Nd → Prop} {e : Ending} {w' : World} {F : Fun} {k m : Nat} (ho : OpRes w B A 208 Mo σ.H σ.G T e w')
    (hT : ∀ r N', T r N' → (Ext σ.N N' ∧ ∀ s, ev N' s r = F s) ∧ N'.length ≤ σ.N.length + k ∧ (newL N' σ.H r).length ≤ m) (hF : Hangs F 0 208) : SpRes w B S km A Mo σ F k m e w' := by
  obtain ⟨r, N', w1, t, wf', rlt, hk, hgv⟩ := ho
  obtain ⟨⟨aext, asem⟩, g1, g2⟩ := hT r N' t
  have hcl := h.ok.cl.ext aext fun i hi => (h.ok.hok.2 i hi).2
  have hhok := ext_ok aext h.ok.hok
  have hgd : ∀ g ∈ σ.G, g < N'.length ∧ (g < 2 ∨ g ∈ σ.H) ∧ Hangs (fun s => ev N' s g) 0 208 := fun g hg => by
    obtain ⟨p1, p2, p3⟩ := h.ok.g g hg
    refine ⟨Nat.lt_of_lt_of_le p1 aext.len, p2, ?_⟩
    rw [show (fun s => ev N' s g) = fun s => ev σ.N s g from funext fun s => aext.ev h.ok.wf wf' s p1]
    exact p3
  have hkd : ∀ p ∈ σ.K, ∃ g ∈ σ.G, p.1 = .int .i64 (g : Int) ∧ (p.2 = .int .i64 1 ∨ p.2 = .int .i64 2 ∧ IsSet N' g) := fun p hp => by
    obtain ⟨g, q1, q2, q3⟩ := h.ok.k p hp
    refine ⟨g, q1, q2, q3.imp id fun q => ⟨q.1, ?_⟩⟩
    unfold IsSet
    rw [show (fun s => ev N' s g) = fun s => ev σ.N s g from funext fun s => aext.ev h.ok.wf wf' s (h.ok.g g q1).1]
    exact q.2
  have hle : ∀ {H' G'} {w'' : World}, ArAt w'' B A 208 Mo N' H' G' → N'.length ≤ 2147483647 := fun ha => by obtain ⟨_, x⟩ := ha; exact x.le
  rcases hgv with ⟨f1, rfl, ha, hk2⟩ | ⟨f1, rfl, ha, hk2⟩
  · refine ⟨(hk.trans hk2).space km, .inl ⟨rfl, by omega, ⟨N', σ.H, σ.G, σ.K⟩, ⟨h.sp.step ha (hk.trans hk2), wf', hhok, hcl, hgd, h.ok.g0, h.ok.g1, hkd, h.ok.mo, hle ha⟩, aext, g1, Nat.le_add_right _ _, fun _ x => x, fun _ x => x⟩⟩
  · obtain ⟨c1, c2⟩ := newL_cl wf' hcl rlt
    have hG : ∀ g ∈ σ.G, g ∈ addL σ.G r := fun g hg => by unfold addL; split; exact hg; exact List.mem_append_left _ hg
    have hr : r ∈ addL σ.G r := by unfold addL; split; assumption; simp
    have hG2 : ∀ g ∈ addL σ.G r, g ∈ σ.G ∨ g = r := fun g hg => by
      unfold addL at hg
      split at hg
      · exact .inl hg
      · simpa using hg
    refine ⟨(hk.trans hk2).space km, .inr ⟨r, ⟨N', σ.H ++ newL N' σ.H r, addL σ.G r, σ.K⟩, rfl, ⟨h.sp.step ha (hk.trans hk2), wf', ⟨?_, fun i hi => ?_⟩, c1, fun g hg => ?_, hG 0 h.ok.g0, hG 1 h.ok.g1, fun p hp => ?_, by simpa using f1, hle ha⟩, ⟨aext, g1, by simp; omega, hG, fun _ x => List.mem_append_left _ x⟩, hr, asem⟩⟩
    · exact List.nodup_append.2 ⟨hhok.1, (newL_ok wf' σ.H rlt).1, fun x hx y hy e => newL_off N' σ.H r y hy (e ▸ hx)⟩
    · rcases List.mem_append.1 hi with hi | hi
      · exact hhok.2 i hi
      · exact (newL_ok wf' σ.H rlt).2 i hi
    · rcases hG2 g hg with hg | rfl
      · obtain ⟨p1, p2, p3⟩ := hgd g hg
        exact ⟨p1, p2.imp id fun x => List.mem_append_left _ x, p3⟩
      · refine ⟨rlt, ?_, ?_⟩
        · rcases Nat.lt_or_ge g 2 with x | x
          · exact .inl x
          · exact .inr (c2 x)
        · show Hangs (fun s => ev N' s g) 0 208
          rw [show (fun s => ev N' s g) = F from funext asem]
          exact hF
    · obtain ⟨g, q1, q2⟩ := hkd p hp
      exact ⟨g, hG g q1, q2⟩
theorem SpOk.op {w : World} {B S km : Nat} {A : Blks} {Mo : Nat} {σ : Sg} (h : SpOk w B S km A Mo σ) {T : Nat → List Nd → Prop} {e : Ending} {w' : World} {F : Fun} {k m : Nat} (ho : OpRes w B A 208 Mo σ.H σ.G T e w')
    (hT : ∀ r N', T r N' → Ans σ.N F r N') (hF : Hangs F 0 208) (hg : Grow σ.N σ.H F k m) : SpRes w B S km A Mo σ F k m e w' :=
  h.op' ho (fun r N' t => ⟨⟨(hT r N' t).ext, (hT r N' t).sem⟩, hg r N' (hT r N' t).ext (hT r N' t).wf (hT r N' t).lt (hT r N' t).sem (hT r N' t).new⟩) hF
section
variable {w : World} {B S km : Nat} {A : Blks} {Mo : Nat} {σ : Sg}
theorem SpRes.form {F : Fun} {k m : Nat} {e : Ending} {w' : World} (h : SpRes w B S km A Mo σ F k m e w') : ∃ q c : Int, e = .returned (.tuple #[.int .i64 q, .int .i64 c]) := by
  rcases h.2 with ⟨rfl, _⟩ | ⟨_, _, rfl, _⟩
  · exact ⟨_, _, rfl⟩
  · exact ⟨_, _, rfl⟩
theorem Ans.same {N N' : List Nd} {F G : Fun} {r : Nat} (a : Ans N F r N') (h : ∀ s, F s = G s) : Ans N G r N' := ⟨a.ext, a.wf, a.lt, fun s => (a.sem s).trans (h s), a.new⟩
theorem MkTo.ans {N N' : List Nd} {v lo hi r : Nat} (m : MkTo N v lo hi r N') (h : WF N) (hlo : lo < N.length) (hhi : hi < N.length) (hvl : v < (nd N lo).v) (hvh : v < (nd N hi).v) : Ans N (fun s => if s v then ev N s hi else ev N s lo) r N' := by
  obtain ⟨a, b, c, d⟩ := m.good h hlo hhi hvl hvh
  refine ⟨a, b, c, d, fun i h1 h2 => ?_⟩
  rcases m with ⟨rfl, rfl, rfl⟩ | ⟨hne, _, hr, hn, rfl⟩ | ⟨hne, hnew, rfl, rfl⟩
  · omega
  · omega
  · have : i = N.length := by simp at h2; omega
    rw [this]
    exact .refl _
theorem SpOk.var (h : SpOk w B S km A Mo σ) (i : Nat) (hi : i < 208) (hl : σ.N.length + 1 ≤ 2147483647) :
    Calls Tryz.prog 177 #[.pointer (some ⟨A.a, 0, none⟩), .int .i64 i] w (SpRes w B S km A Mo σ (fun s => s i) 1 1) := by
  have two := h.ok.wf.two
  have e0 : (nd σ.N 0).v = 256 := by rw [h.ok.wf.ends 0 (by omega)]
  have e1 : (nd σ.N 1).v = 256 := by rw [h.ok.wf.ends 1 (by omega)]
  have hgr := (Den.one h.ok).step (Den.zero h.ok) h.ok hi (Hangs.const true _ _) (Hangs.const false _ _)
  rw [show (fun s : Nat → Bool => if s i then true else false) = fun s => s i from funext fun s => by cases s i <;> rfl] at hgr
  refine (Var_any i h.sp.ar hi (by omega) h.ok.hok fun r N' m => ?_).mono fun e w' ho => h.op ho (fun r N' m => ?_) ((Hangs.var i).mono (by omega) (by omega)) hgr
  · rcases m with ⟨_, _, rfl⟩ | ⟨_, _, _, _, rfl⟩ | ⟨_, _, _, rfl⟩
    · omega
    · omega
    · simpa using hl
  · exact (m.ans h.ok.wf (by omega) (by omega) (by omega) (by omega)).same fun s => by rw [ev_zero, ev_one]; cases s i <;> rfl
theorem SpOk.ite (h : SpOk w B S km A Mo σ) {f g k : Nat} {F G K : Fun} (hf : Den σ f F) (hg : Den σ g G) (hk : Den σ k K) {a b : Nat} (hgr : Grow σ.N σ.H (fun s => if F s then G s else K s) a b) (hl : σ.N.length + a ≤ 2147483647) :
    Calls Tryz.prog 92 #[.pointer (some ⟨A.a, 0, none⟩), .int .i64 f, .int .i64 g, .int .i64 k] w (SpRes w B S km A Mo σ (fun s => if F s then G s else K s) a b) := by
  have e : (fun s => if ev σ.N s f then ev σ.N s g else ev σ.N s k) = fun s => if F s then G s else K s := funext fun s => by rw [hf.2, hg.2, hk.2]
  have hgr' := hgr
  rw [← e] at hgr'
  refine (Ite_any f g k h.sp.ar ⟨hf.1, (h.ok.g f hf.1).1⟩ ⟨hg.1, (h.ok.g g hg.1).1⟩ ⟨hk.1, (h.ok.g k hk.1).1⟩ h.ok.hok (hgr'.cap hl)).mono fun e' w' ho => h.op ho (fun r N' t => ?_) ((hf.hangs h.ok).op (fun x y z => if x then y else z) (hg.hangs h.ok) (hk.hangs h.ok)) hgr
  exact t.ans.same fun s => congrFun e s
theorem SpOk.not (h : SpOk w B S km A Mo σ) {f : Nat} {F : Fun} (hf : Den σ f F) {a b : Nat} (hgr : Grow σ.N σ.H (fun s => !F s) a b) (hl : σ.N.length + a ≤ 2147483647) :
    Calls Tryz.prog 53 #[.pointer (some ⟨A.a, 0, none⟩), .int .i64 f] w (SpRes w B S km A Mo σ (fun s => !F s) a b) := by
  have e : (fun s => if ev σ.N s f then ev σ.N s 0 else ev σ.N s 1) = fun s => !F s := funext fun s => by rw [hf.2, ev_zero, ev_one]; cases F s <;> rfl
  have hgr' := hgr
  rw [← e] at hgr'
  refine (Not_any f h.sp.ar ⟨hf.1, (h.ok.g f hf.1).1⟩ h.ok.g0 h.ok.g1 h.ok.hok (hgr'.cap hl)).mono fun e' w' ho => h.op ho (fun r N' t => ?_) ((hf.hangs h.ok).op1 (fun x => !x)) hgr
  exact t.ans.same fun s => congrFun e s
theorem SpOk.and (h : SpOk w B S km A Mo σ) {f g : Nat} {F G : Fun} (hf : Den σ f F) (hg : Den σ g G) {a b : Nat} (hgr : Grow σ.N σ.H (fun s => F s && G s) a b) (hl : σ.N.length + a ≤ 2147483647) :
    Calls Tryz.prog 55 #[.pointer (some ⟨A.a, 0, none⟩), .int .i64 f, .int .i64 g] w (SpRes w B S km A Mo σ (fun s => F s && G s) a b) := by
  have e : (fun s => if ev σ.N s f then ev σ.N s g else ev σ.N s 0) = fun s => F s && G s := funext fun s => by rw [hf.2, hg.2, ev_zero]; cases F s <;> rfl
  have hgr' := hgr
  rw [← e] at hgr'
  refine (And_any f g h.sp.ar ⟨hf.1, (h.ok.g f hf.1).1⟩ ⟨hg.1, (h.ok.g g hg.1).1⟩ h.ok.g0 h.ok.hok (hgr'.cap hl)).mono fun e' w' ho => h.op ho (fun r N' t => ?_) ((hf.hangs h.ok).op2 (fun x y => x && y) (hg.hangs h.ok)) hgr
  exact t.ans.same fun s => congrFun e s
theorem SpOk.or (h : SpOk w B S km A Mo σ) {f g : Nat} {F G : Fun} (hf : Den σ f F) (hg : Den σ g G) {a b : Nat} (hgr : Grow σ.N σ.H (fun s => F s || G s) a b) (hl : σ.N.length + a ≤ 2147483647) :
    Calls Tryz.prog 90 #[.pointer (some ⟨A.a, 0, none⟩), .int .i64 f, .int .i64 g] w (SpRes w B S km A Mo σ (fun s => F s || G s) a b) := by
  have e : (fun s => if ev σ.N s f then ev σ.N s 1 else ev σ.N s g) = fun s => F s || G s := funext fun s => by rw [hf.2, hg.2, ev_one]; cases F s <;> rfl
  have hgr' := hgr
  rw [← e] at hgr'
  refine (Or_any f g h.sp.ar ⟨hf.1, (h.ok.g f hf.1).1⟩ ⟨hg.1, (h.ok.g g hg.1).1⟩ h.ok.g1 h.ok.hok (hgr'.cap hl)).mono fun e' w' ho => h.op ho (fun r N' t => ?_) ((hf.hangs h.ok).op2 (fun x y => x || y) (hg.hangs h.ok)) hgr
  exact t.ans.same fun s => congrFun e s
end
end Go.Proofs.YtbahehmfhjkgeaaGreat

/-
  A number's bits laid in a space.
-/
namespace Go.Proofs.YtbahehmfhjkgeaaGreat
open Go Go.RowKit Go.ChangeMaps Go.MapKept Go.Maps Go.Lib Go.Sort

def litF (x : Nat) (b : Bool) (F : Fun) : Fun := fun s => (s x == b) && F s
/-- The last m bits of a field's n, read from the last one up, are v's. -/
def bitsF (a o n v : Nat) : Nat → Fun
  | 0 => fun _ => true
  | m + 1 => litF (2 * (a + (n - 1 - m)) + o) (v.testBit m) (bitsF a o n v m)
theorem Hangs.lit {F : Fun} {x a b : Nat} (c : Bool) (h : Hangs F a b) (h1 : x ≤ a) (h2 : x < b) : Hangs (litF x c F) x b := fun s t e => by
  unfold litF
  rw [e x (Nat.le_refl _) h2, h s t fun u h3 h4 => e u (by omega) h4]
theorem bitsF_hangs (a o n v : Nat) (ho : o < 2) : ∀ m, m ≤ n → Hangs (bitsF a o n v m) (2 * (a + (n - m)) + o) (2 * (a + n) + o)
  | 0, _ => Hangs.const true _ _
  | m + 1, hm => by
    have := bitsF_hangs a o n v ho m (by omega)
    rw [show n - (m + 1) = n - 1 - m from by omega]
    exact this.lit _ (by omega) (by omega)
theorem SpRes.after {w w1 w' : World} {B S km : Nat} {A : Blks} {Mo : Nat} {σ τ : Sg} {F : Fun} {k m k' m' : Nat} {e : Ending} (t : To k m σ τ) (hk : KeptS A km w w1) (h : SpRes w1 B S km A Mo τ F k' m' e w') : SpRes w B S km A Mo σ F (k + k') (m + m') e w' := by
  refine ⟨hk.trans h.1, ?_⟩
  rcases h.2 with ⟨h1, h2, τ', h3, h4⟩ | ⟨r, τ', h1, h2, h3, h4⟩
  · exact .inl ⟨h1, by have := t.hl; omega, τ', h3, t.trans h4⟩
  · exact .inr ⟨r, τ', h1, h2, t.trans h3, h4⟩
theorem SpRes.mono {w w' : World} {B S km : Nat} {A : Blks} {Mo : Nat} {σ : Sg} {F : Fun} {k m k' m' : Nat} {e : Ending} (h : SpRes w B S km A Mo σ F k m e w') (hk : k ≤ k') (hm : m ≤ m') : SpRes w B S km A Mo σ F k' m' e w' := by
  refine ⟨h.1, ?_⟩
  rcases h.2 with ⟨h1, h2, τ', h3, h4⟩ | ⟨r, τ', h1, h2, h3, h4⟩
  · exact .inl ⟨h1, by omega, τ', h3, h4.mono hk hm⟩
  · exact .inr ⟨r, τ', h1, h2, h3.mono hk hm, h4⟩
/-- No room: whatever was asked. -/
theorem SpRes.full {w w' : World} {B S km : Nat} {A : Blks} {Mo : Nat} {σ τ : Sg} {F : Fun} {k m : Nat} {e : Ending} (hk : KeptS A km w w') (h1 : e = .returned (.tuple #[.int .i64 0, .int .i64 3])) (h2 : Mo < σ.H.length + m) (h3 : SpOk w' B S km A Mo τ) (h4 : To k m σ τ) : SpRes w B S km A Mo σ F k m e w' :=
  ⟨hk, .inl ⟨h1, h2, τ, h3, h4⟩⟩
theorem Den.lit {Mo : Nat} {σ : Sg} {g x : Nat} {F : Fun} (a : Den σ g F) (o : SgOk Mo σ) (hx : x < 208) (hF : Hangs F (x + 1) 256) (b : Bool) : Grow σ.N σ.H (litF x b F) 1 1 := by
  cases b
  · have := (Den.zero o).step a o hx (Hangs.const false _ _) hF
    rw [show (fun s : Nat → Bool => if s x then false else F s) = litF x false F from funext fun s => by unfold litF; cases s x <;> rfl] at this
    exact this
  · have := a.step (Den.zero o) o hx hF (Hangs.const false _ _)
    rw [show (fun s : Nat → Bool => if s x then F s else false) = litF x true F from funext fun s => by unfold litF; cases s x <;> rfl] at this
    exact this
theorem Den.notvar {Mo : Nat} {σ : Sg} {x : Nat} (o : SgOk Mo σ) (hx : x < 208) : Grow σ.N σ.H (fun s => !s x) 1 1 := by
  have := (Den.zero o).step (Den.one o) o hx (Hangs.const false _ _) (Hangs.const true _ _)
  rw [show (fun s : Nat → Bool => if s x then false else true) = fun s => !s x from funext fun s => by cases s x <;> rfl] at this
  exact this
set_option maxHeartbeats 400000 in
theorem now_any (i : Nat) (w : World) (hi : i < 1000) : Calls Tryz.prog 84 #[.int .i64 i] w fun e w' => e = .returned (.int .i64 ((2 * i + 0 : Nat) : Int)) ∧ w' = w := by
  go_enter Tryz.func84, Tryz.ntmps84
  go_wp2
  go_ret
  exact ⟨by go_num, rfl⟩
set_option maxHeartbeats 400000 in
theorem then_any (i : Nat) (w : World) (hi : i < 1000) : Calls Tryz.prog 93 #[.int .i64 i] w fun e w' => e = .returned (.int .i64 ((2 * i + 1 : Nat) : Int)) ∧ w' = w := by
  go_enter Tryz.func93, Tryz.ntmps93
  go_wp2
  go_ret
  exact ⟨by go_num, rfl⟩
/-- A function of bits: the bit's variable. -/
structure VarF (vf : FuncId) (o : Nat) : Prop where
  o2 : o < 2
  en : ∀ (args : Array Value) (w : World), (callFunc vf args).run Tryz.prog w = .ok (.enter vf args) w
  calls : ∀ (i : Nat) (w : World), i < 1000 → Calls Tryz.prog vf #[.int .i64 i] w fun e w' => e = .returned (.int .i64 ((2 * i + o : Nat) : Int)) ∧ w' = w
theorem nowF : VarF 84 0 := ⟨by omega, fun _ _ => by go_simp, now_any⟩
theorem thenF : VarF 93 1 := ⟨by omega, fun _ _ => by go_simp, then_any⟩
theorem bit_u64 (v m : Nat) (hv : v < 4294967296) : bits .and .u64 ((v : Int) / 2 ^ m) 1 = if v.testBit m then 1 else 0 := by
  have e : ((v : Int) / 2 ^ m) = ((v / 2 ^ m : Nat) : Int) := by
    simp
  have hlt : v / 2 ^ m ≤ v := Nat.div_le_self _ _
  rw [e, show (1 : Int) = ((1 : Nat) : Int) from rfl, u64_and_nat _ _ (by omega) (by omega), Nat.and_one_is_mod, Nat.testBit_eq_decide_div_mod_eq]
  have : v / 2 ^ m % 2 = 0 ∨ v / 2 ^ m % 2 = 1 := by omega
  rcases this with h | h <;> simp [h]
theorem SpRes.two {w w' : World} {B S km : Nat} {A : Blks} {Mo : Nat} {σ : Sg} {F : Fun} {k m : Nat} {q c : Int} (h : SpRes w B S km A Mo σ F k m (.returned (.tuple #[.int .i64 q, .int .i64 c])) w') :
    (q = 0 ∧ c = 3 ∧ Mo < σ.H.length + m ∧ ∃ τ, SpOk w' B S km A Mo τ ∧ To k m σ τ) ∨ ∃ (r : Nat) (τ : Sg), q = r ∧ c = 0 ∧ SpOk w' B S km A Mo τ ∧ To k m σ τ ∧ Den τ r F := by
  rcases h.2 with ⟨h1, h2⟩ | ⟨r, τ, h1, h2⟩
  · injection h1 with h1
    simp at h1
    exact .inl ⟨h1.1, h1.2, h2⟩
  · injection h1 with h1
    simp at h1
    exact .inr ⟨r, τ, h1.1, h1.2, h2⟩
theorem SpRes.c0 {w w' : World} {B S km : Nat} {A : Blks} {Mo : Nat} {σ : Sg} {F : Fun} {k m : Nat} {e : Ending} (h : SpRes w B S km A Mo σ F k m e w') : w'.cell? ⟨S, 0, none⟩ = some (.pointer (some ⟨A.a, 0, none⟩)) := by
  rcases h.2 with ⟨_, _, _, h, _⟩ | ⟨_, _, _, h, _⟩ <;> exact h.sp.c0
set_option maxRecDepth 100000 in
set_option maxHeartbeats 2000000 in
theorem bits_any {w : World} {B S km : Nat} {A : Blks} {Mo : Nat} {σ : Sg} (h : SpOk w B S km A Mo σ) {vf : FuncId} {o : Nat} (V : VarF vf o) (a n v : Nat) (hn : a + n ≤ 104) (hn32 : n ≤ 32) (hv : v < 4294967296) (hl : σ.N.length + 3 * n ≤ 2147483647) :
    Calls Tryz.prog 97 #[.pointer (some ⟨S, 0, none⟩), .int .i64 a, .int .i64 n, .int .u64 v, .func (.func vf) #[] #[]] w (SpRes w B S km A Mo σ (bitsF a o n v n) (3 * n) (3 * n)) := by
  have HS := Lib.hid h
  have hen := V.en
  have HV := Lib.hid V
  have hn1 : (n : Int) ≤ 104 := by omega
  have ha1 : (a : Int) ≤ 104 := by omega
  clear h V
  go_enter Tryz.func97, Tryz.ntmps97
  go_wp2
  go_loopw [12, 13] (fun f i wr => ∃ m : Nat, m ≤ n ∧ i = .int .i64 ((n : Int) - 1 - m) ∧ ∃ (r : Nat) (τ : Sg), f = .int .i64 r ∧ Hid (SpOk wr B S km A Mo τ) ∧ Hid (To (3 * m) (3 * m) σ τ) ∧ Hid (Den τ r (bitsF a o n v m)) ∧ Hid (KeptS A km w wr)) (fun _ i _ => (intOf i + 1).toNat)
  case atStart => exact ⟨0, by omega, by simp, 1, σ, rfl, HS, Lib.hid (To.refl σ), Lib.hid (Den.one HS.out.ok), Lib.hid (KeptS.refl _ _ _)⟩
  case round =>
    obtain ⟨m, hm, rfl, r, τ, rfl, HS1, HT1, HD1, HK1⟩ := hrel
    by_cases hlt : m < n
    · have hI : (n : Int) - 1 - m ≥ 0 := by omega
      have c0 := HS1.out.sp.c0
      obtain ⟨x, hx⟩ : ∃ x, x = 2 * (a + (n - 1 - m)) + o := ⟨_, rfl⟩
      have hxi : ((a + (n - 1 - m) : Nat) : Int) = (a : Int) + ((n : Int) - 1 - m) := by omega
      have ho := HV.out.o2
      have HN := Lib.hid (show ∀ W, Calls Tryz.prog vf #[.int .i64 ((a : Int) + ((n : Int) - 1 - m))] W (fun e w' => e = .returned (.int .i64 (x : Int)) ∧ w' = W) from fun W => by
        have := HV.out.calls (a + (n - 1 - m)) W (by omega)
        rw [hxi, ← hx] at this
        exact this)
      have hwd : Below wr.heap.size wr wr.drew := ⟨rfl, rfl, rfl, Nat.le_refl _, fun _ _ => rfl⟩
      have HSD := Lib.hid (HS1.out.below hwd)
      have HKD := Lib.hid (HK1.out.trans (HS1.out.kept hwd))
      have hnl := HT1.out.nl
      have hvar := Lib.hid (HSD.out.var x (by omega) (by omega))
      have hw1 : IntKind.i64.wrap ((a : Int) + ((n : Int) - 1 - m)) = (a : Int) + ((n : Int) - 1 - m) := IntWalk.i64_in _ (by omega)
      have HX := Lib.hid hx
      clear hxi hnl hwd ho hx
      go_upto_region 5 with fail
      go_region_held3 (fun w' => w'.cell? ⟨S, 0, none⟩ = some (.pointer (some ⟨A.a, 0, none⟩))) (first | exact hcs | go_keep) ((first
        | ((with_reducible refine (HN.out _).mono ?_); rintro e _ ⟨rfl, rfl⟩)
        | ((with_reducible refine hvar.out.mono ?_); rintro e W5 hr5; obtain ⟨q5, c5, he5⟩ := hr5.form; have HR5 := Lib.hid hr5; subst he5; have hcs : W5.cell? ⟨S, 0, none⟩ = some (.pointer (some ⟨A.a, 0, none⟩)) := hr5.c0; clear hr5)))
      have hfin5 := HR5.out.two
      clear hcs
      rcases hfin5 with ⟨rfl, rfl, hlt5, τ5, hs5, ht5⟩ | ⟨r5, τ5, rfl, rfl, hs5, ht5, hd5⟩
      · have HFIN := Lib.hid (SpRes.full (F := bitsF a o n v n) (HKD.out.trans HR5.out.1) rfl (by have := HT1.out.hl; omega) hs5 ((HT1.out.trans ht5).mono (show 3 * m + 1 ≤ 3 * n by omega) (show 3 * m + 1 ≤ 3 * n by omega)))
        clear hlt5 hs5 ht5
        go_wp2
        go_ret2
        exact HFIN.out
      · have HS5 := Lib.hid hs5
        have HT5 := Lib.hid (HT1.out.trans ht5)
        have HD5 := Lib.hid hd5
        have HK5 := Lib.hid (HKD.out.trans HR5.out.1)
        have c5 := hs5.sp.c0
        have HD5r := Lib.hid (HD1.out.to ht5 HS1.out.ok hs5.ok)
        clear hs5 ht5 hd5 HR5 hvar HN
        have hsh : (n : Int) - 1 - ((n : Int) - 1 - m) = m := by omega
        have hn5 := HT5.out.nl
        have hh5 := HT5.out.hl
        have hxl : x < 208 := by have := HX.out; have := HV.out.o2; omega
        have HLF : Hid (∀ (W : World) (q : Nat) (τ6 : Sg) (k : Nat), k ≤ 1 → SpOk W B S km A Mo τ6 → To k k τ5 τ6 → KeptS A km w W → Den τ6 q (fun s => s x == v.testBit m) → Calls Tryz.prog 55 #[.pointer (some ⟨A.a, 0, none⟩), .int .i64 q, .int .i64 r] W (fun e w' => ∃ Q C : Int, e = .returned (.tuple #[.int .i64 Q, .int .i64 C]) ∧ ((Q = 0 ∧ C = 3 ∧ SpRes w B S km A Mo σ (bitsF a o n v n) (3 * n) (3 * n) e w') ∨
            ∃ (r' : Nat) (τ' : Sg), Q = r' ∧ C = 0 ∧ SpOk w' B S km A Mo τ' ∧ To (3 * (m + 1)) (3 * (m + 1)) σ τ' ∧ Den τ' r' (bitsF a o n v (m + 1)) ∧ KeptS A km w w'))) := Lib.hid (by
          intro W q τ6 k hk h6 t6 k6 d6
          have hrd := HD5r.out.to t6 HS5.out.ok h6.ok
          have hgr := hrd.lit h6.ok hxl ((bitsF_hangs a o n v HV.out.o2 m hm).mono (show x + 1 ≤ 2 * (a + (n - m)) + o by have := HX.out; omega) (by have := HV.out.o2; omega)) (v.testBit m)
          have n6 := t6.nl
          have l6 := t6.hl
          have t7 := HT5.out.trans t6
          refine (h6.and d6 hrd (a := 1) (b := 1) hgr (by omega)).mono fun e w' hr => ?_
          obtain ⟨Q, C, rfl⟩ := hr.form
          refine ⟨Q, C, rfl, ?_⟩
          rcases hr.two with ⟨h1, h2, h3, τ', h4, h5⟩ | ⟨r', τ', h1, h2, h4, h5, h6⟩
          · subst h1 h2
            exact .inl ⟨rfl, rfl, SpRes.full (k6.trans hr.1) rfl (by omega) h4 ((t7.trans h5).mono (by omega) (by omega))⟩
          · refine .inr ⟨r', τ', h1, h2, h4, (t7.trans h5).mono (by omega) (by omega), ?_, k6.trans hr.1⟩
            have : bitsF a o n v (m + 1) = fun s => (s x == v.testBit m) && bitsF a o n v m s := by rw [HX.out]; rfl
            rw [this]
            exact h6)
        clear hn5 hh5 hxl HD5r
        cases hb : v.testBit m with
        | false =>
          have hbit : bits .and .u64 ((v : Int) / 2 ^ m) 1 = 0 := by rw [bit_u64 v m hv, hb]; rfl
          have hnot := Lib.hid (HS5.out.not HD5.out (a := 1) (b := 1) (Den.notvar HS5.out.ok (by have := HX.out; have := HV.out.o2; omega)) (by have := HT5.out.nl; omega))
          rw [hb] at HLF
          clear hb
          go_upto_region 10 with ((with_reducible refine hnot.out.mono ?_); rintro e W6 hr6; obtain ⟨q6, c6, he6⟩ := hr6.form; subst he6; have HR6 := Lib.hid hr6; clear hr6)
          rcases HR6.out.two with ⟨rfl, rfl, hlt6, τ6, hs6, ht6⟩ | ⟨r6, τ6, rfl, rfl, hs6, ht6, hd6⟩
          · have HFIN := Lib.hid (SpRes.full (F := bitsF a o n v n) (HK5.out.trans HR6.out.1) rfl (by have := HT5.out.hl; omega) hs6 ((HT5.out.trans ht6).mono (show 3 * m + 1 + 1 ≤ 3 * n by omega) (show 3 * m + 1 + 1 ≤ 3 * n by omega)))
            clear hlt6 hs6 ht6
            go_wp2
            go_ret2
            exact HFIN.out
          · have c6 := hs6.sp.c0
            have HAND := Lib.hid (HLF.out W6 r6 τ6 1 (by omega) hs6 ht6 (HK5.out.trans HR6.out.1) (by
              refine ⟨hd6.1, fun s => (hd6.2 s).trans ?_⟩
              show (!s x) = (s x == false)
              cases s x <;> rfl))
            clear hs6 ht6 hd6 HR6 hnot HLF c5
            go_upto_region 13 with ((with_reducible refine HAND.out.mono ?_); rintro e W7 ⟨q7, c7, he7, hr7⟩; subst he7; have HR7 := Lib.hid hr7; clear hr7)
            rcases HR7.out with ⟨rfl, rfl, hr⟩ | ⟨r7, τ7, rfl, rfl, hs7, ht7, hd7, hk7⟩
            · have HFIN := Lib.hid hr
              clear hr HR7
              go_wp2
              go_ret2
              exact HFIN.out
            · have HS7 := Lib.hid hs7
              have HT7 := Lib.hid ht7
              have HD7 := Lib.hid hd7
              have HK7 := Lib.hid hk7
              clear hs7 ht7 hd7 hk7 HR7 HAND
              go_wp2
              exact ⟨⟨m + 1, by omega, by go_num, r7, τ7, rfl, HS7, HT7, HD7, HK7⟩, by simp only [intOf]; omega⟩
        | true =>
          have hbit : bits .and .u64 ((v : Int) / 2 ^ m) 1 = 1 := by rw [bit_u64 v m hv, hb]; rfl
          rw [hb] at HLF
          have HAND := Lib.hid (HLF.out W5 r5 τ5 0 (by omega) HS5.out (To.refl _) HK5.out (by
              refine ⟨HD5.out.1, fun s => (HD5.out.2 s).trans ?_⟩
              show s x = (s x == true)
              cases s x <;> rfl))
          clear HLF hb
          go_upto_region 13 with ((with_reducible refine HAND.out.mono ?_); rintro e W7 ⟨q7, c7, he7, hr7⟩; subst he7; have HR7 := Lib.hid hr7; clear hr7)
          rcases HR7.out with ⟨rfl, rfl, hr⟩ | ⟨r7, τ7, rfl, rfl, hs7, ht7, hd7, hk7⟩
          · have HFIN := Lib.hid hr
            clear hr HR7
            go_wp2
            go_ret2
            exact HFIN.out
          · have HS7 := Lib.hid hs7
            have HT7 := Lib.hid ht7
            have HD7 := Lib.hid hd7
            have HK7 := Lib.hid hk7
            clear hs7 ht7 hd7 hk7 HR7 HAND
            go_wp2
            exact ⟨⟨m + 1, by omega, by go_num, r7, τ7, rfl, HS7, HT7, HD7, HK7⟩, by simp only [intOf]; omega⟩
    · obtain rfl : m = n := by omega
      have hI : ¬ (m : Int) - 1 - m ≥ 0 := by omega
      have HFIN : Hid (SpRes w B S km A Mo σ (bitsF a o m v m) (3 * m) (3 * m) (.returned (.tuple #[.int .i64 r, .int .i64 0])) wr) := Lib.hid ⟨HK1.out, .inr ⟨r, τ, rfl, HS1.out, HT1.out, HD1.out⟩⟩
      go_wp2
      go_ret2
      exact HFIN.out
end Go.Proofs.YtbahehmfhjkgeaaGreat

/-
  Diagrams, plain: how many nodes stand ahead of nodes that are held already. No program in sight.
-/
namespace Go.Proofs.YtbahehmfhjkgeaaGreat

/-- Between a node and one beneath it, behind the variable u: a node that is what is left there. -/
theorem Rch.cross {N : List Nd} (w : WF N) {u : Nat} {r i : Nat} (h : Rch N r i) (hr : r < N.length) (hu : u < (nd N i).v) : ∃ j s, Rch N r j ∧ Rch N j i ∧ ∀ t, ev N (mixS (u + 1) s t) r = ev N t j := by
  have here : ∀ r i, Rch N r i → r < N.length → u < (nd N r).v → ∃ j s, Rch N r j ∧ Rch N j i ∧ ∀ t, ev N (mixS (u + 1) s t) r = ev N t j := fun r i h hr hu =>
    ⟨r, fun _ => false, .refl r, h, fun t => ev_agree w r _ _ hr fun v hv => mixS_high _ _ (by omega)⟩
  induction h with
  | refl i => exact here i i (.refl i) hr hu
  | @lo r i a b h ih =>
    rcases Nat.lt_or_ge u (nd N r).v with hv | hv
    · exact here r i (.lo a b h) hr hv
    · have h1 := w.lo _ a b
      have h2 := w.vlo _ a b
      obtain ⟨j, s, j1, j2, hs⟩ := ih (by omega) hu
      refine ⟨j, put s (nd N r).v false, .lo a b j1, j2, fun t => ?_⟩
      rw [ev_node w _ a b, mixS_low _ _ (by omega), put_same, if_neg (by simp), ← hs t]
      refine ev_agree w _ _ _ (by omega) fun v hv => ?_
      unfold mixS
      split
      · exact put_other (by omega)
      · rfl
  | @hi r i a b h ih =>
    rcases Nat.lt_or_ge u (nd N r).v with hv | hv
    · exact here r i (.hi a b h) hr hv
    · have h1 := w.hi _ a b
      have h2 := w.vhi _ a b
      obtain ⟨j, s, j1, j2, hs⟩ := ih (by omega) hu
      refine ⟨j, put s (nd N r).v true, .hi a b j1, j2, fun t => ?_⟩
      rw [ev_node w _ a b, mixS_low _ _ (by omega), put_same, if_pos rfl, ← hs t]
      refine ev_agree w _ _ _ (by omega) fun v hv => ?_
      unfold mixS
      split
      · exact put_other (by omega)
      · rfl
/-- Behind u all that is left has nodes that are held: only the nodes up to u are new. -/
theorem Grow.top {N : List Nd} {H : List Nat} {F : Fun} {u : Nat} (w : WF N) (hH : Cl N H) (hHl : ∀ i ∈ H, i < N.length) (c : Nat → Nat) (hc : ∀ v, v ≤ u → Free F v ∨ CutLe F v (c v))
    (hu : ∀ s, ∃ g, g < N.length ∧ (g < 2 ∨ g ∈ H) ∧ ∀ t, F (mixS (u + 1) s t) = ev N t g) : Grow N H F (sumTo c (u + 1)) (sumTo c (u + 1)) := fun r N' e w' hr hs hn => by
  have hl := e.len
  have old : ∀ i, Rch N' r i → u < (nd N' i).v → i < N.length ∧ (i < 2 ∨ i ∈ H) := fun i hi hui => by
    obtain ⟨j, s, j1, j2, hj⟩ := hi.cross w' hr hui
    obtain ⟨g, g1, g2, g3⟩ := hu s
    have hjl := j1.lt w' hr
    have : j = g := w'.canon (j + g) j g (by omega) (by omega) hjl (by omega) fun t => by rw [← hj t, hs, g3, e.ev w w' t g1]
    subst this
    have hle := j2.le w' hjl
    refine ⟨by omega, ?_⟩
    rcases Nat.lt_or_ge i 2 with i2 | i2
    · exact .inl i2
    · rcases g2 with g2 | g2
      · omega
      · exact .inr ((hH.ext e hHl).rch j2 g2 i2)
  have bound : ∀ l : List Nat, l.Nodup → (∀ i ∈ l, 2 ≤ i ∧ Rch N' r i ∧ (nd N' i).v ≤ u) → l.length ≤ sumTo c (u + 1) := fun l hd hm => by
    refine by_label (fun i => (nd N' i).v) c (u + 1) l (fun i hi => by have := (hm i hi).2.2; show (nd N' i).v < u + 1; omega) fun v hv => ?_
    have hm' : ∀ i ∈ (l.filter fun i => decide ((nd N' i).v = v)), i ∈ l ∧ (nd N' i).v = v := fun i hi => by
      have := List.mem_filter.1 hi
      exact ⟨this.1, by simpa using this.2⟩
    rcases hc v (by omega) with hf | ⟨L, hL, hcc⟩
    · refine Nat.le_trans (Nat.le_of_eq ?_) (Nat.zero_le _)
      rw [List.length_eq_zero_iff, List.eq_nil_iff_forall_not_mem]
      intro i hi
      obtain ⟨h1, h2⟩ := hm' i hi
      refine not_free w' hr (hm i h1).2.1 (hm i h1).1 ?_
      rw [h2, show (fun s => ev N' s r) = F from funext hs]
      exact hf
    · refine Nat.le_trans (inj_len _ L (fun i s => ev N' s i) (hd.filter _) (fun i hi => ?_) fun i hi j hj e => ?_) hL
      · obtain ⟨h1, h2⟩ := hm' i hi
        obtain ⟨s, hs'⟩ := (hm i h1).2.1.path w' hr
        have := hcc s
        rw [show cof F v s = fun t => ev N' t i from funext fun t => by rw [← hs' t, h2]; exact (hs _).symm] at this
        exact this
      · have h1 := hm i (hm' i hi).1
        have h2 := hm j (hm' j hj).1
        have := h1.2.1.lt w' hr
        have := h2.2.1.lt w' hr
        exact w'.canon (i + j) i j (by omega) (by omega) (by omega) (by omega) fun s => congrFun e s
  constructor
  · have hd : ((List.range (N'.length - N.length)).map (· + N.length)).Nodup := by
      refine List.Pairwise.map _ (fun a b h => ?_) List.nodup_range
      omega
    have two := w.two
    have := bound _ hd (fun i hi => by
      simp only [List.mem_map, List.mem_range] at hi
      obtain ⟨a, ha, rfl⟩ := hi
      have hr' := hn (a + N.length) (by omega) (by omega)
      refine ⟨by omega, hr', ?_⟩
      rcases Nat.lt_or_ge u (nd N' (a + N.length)).v with h | h
      · have := (old _ hr' h).1
        omega
      · exact h)
    simp at this
    omega
  · refine bound _ (newL_ok w' H hr).1 fun i hi => ?_
    rcases dfs_rch w' H _ _ _ hr i hi with h | ⟨h2, h⟩
    · cases h
    · refine ⟨h2, h, ?_⟩
      rcases Nat.lt_or_ge u (nd N' i).v with h' | h'
      · rcases (old i h h').2 with h3 | h3
        · omega
        · exact absurd h3 (newL_off N' H r i hi)
      · exact h'
/-- All that is left is false, or one of k. -/
def CutF (F : Fun) (v k : Nat) : Prop := ∃ L : List Fun, L.length ≤ k ∧ ∀ s, cof F v s ∈ (fun _ => false) :: L
theorem CutF.le {F : Fun} {v k : Nat} (h : CutF F v k) : CutLe F v (k + 1) := by
  obtain ⟨L, a, b⟩ := h
  exact ⟨_, by simp; exact a, b⟩
theorem Hangs.aheadF {F : Fun} {a b v : Nat} (h : Hangs F a b) (hv : v ≤ a) : CutF F v 1 := by
  obtain ⟨L, h1, h2⟩ := h.ahead hv
  exact ⟨L, h1, fun s => List.mem_cons_of_mem _ (h2 s)⟩
end Go.Proofs.YtbahehmfhjkgeaaGreat

/-
  From each header to those with the same bits, but for those of a part (written by wip/gen/genrb3.py).
-/
namespace Go.Proofs.YtbahehmfhjkgeaaGreat
open Go Go.RowKit Go.ChangeMaps Go.MapKept Go.Maps Go.Lib Go.Sort

theorem sumTo_two (a p q : Nat) : ∀ n, sumTo (fun v => if v = a then p else if v = a + 1 then q else 0) n ≤ (if a < n then p else 0) + (if a + 1 < n then q else 0)
  | 0 => by simp [sumTo]
  | n + 1 => by
    have ih := sumTo_two a p q n
    show sumTo _ n + (if n = a then p else if n = a + 1 then q else 0) ≤ _
    by_cases h1 : n = a
    · subst h1
      rw [if_neg (by omega), if_neg (by omega)] at ih
      rw [if_pos rfl, if_pos (by omega), if_neg (by omega)]
      omega
    · rw [if_neg h1]
      by_cases h2 : n = a + 1
      · subst h2
        rw [if_pos (by omega), if_neg (by omega)] at ih
        rw [if_pos rfl, if_pos (by omega), if_pos (by omega)]
        omega
      · rw [if_neg h2]
        by_cases l1 : a < n
        · by_cases l2 : a + 1 < n
          · rw [if_pos l1, if_pos l2] at ih
            rw [if_pos (by omega), if_pos (by omega)]
            exact ih
          · omega
        · rw [if_neg l1, if_neg (by omega)] at ih
          rw [if_neg (by omega), if_neg (by omega)]
          exact ih
theorem Wid.two {F : Fun} {a p q : Nat} (ha : a + 1 < 256) (h : Hangs F a (a + 2)) (h1 : CutLe F a p) (h2 : CutLe F (a + 1) q) : Wid F (p + q) := by
  refine ⟨_, fun v hv => ?_, Nat.le_trans (sumTo_two a p q 256) (by rw [if_pos (by omega), if_pos ha]; exact Nat.le_refl _)⟩
  by_cases e1 : v = a
  · subst e1
    refine .inr ?_
    simp only [if_true]
    exact h1
  · by_cases e2 : v = a + 1
    · subst e2
      refine .inr ?_
      simp only [e1, if_false, if_true]
      exact h2
    · exact .inl (h.free (by omega))
/-- Two cofactors at the second of two variables. -/
theorem CutLe.second {F : Fun} {a b : Nat} (h : Hangs F a b) : CutLe F (a + 1) 2 := by
  refine ⟨[fun t => F (put t a false), fun t => F (put t a true)], Nat.le_refl _, fun s => ?_⟩
  have e : cof F (a + 1) s = fun t => F (put t a (s a)) := funext fun t => h _ _ fun u h1 h2 => by
    rcases Nat.eq_or_lt_of_le h1 with e | e
    · subst e
      rw [mixS_low _ _ (by omega), put_same]
    · rw [mixS_high _ _ (by omega), put_other (by omega)]
  rw [e]
  cases s a <;> simp
def xorF (a : Nat) : Fun := fun s => s a != s (a + 1)
theorem xorF_hangs (a : Nat) : Hangs (xorF a) a (a + 2) := fun s t e => by
  unfold xorF
  rw [e a (by omega) (by omega), e (a + 1) (by omega) (by omega)]
theorem xorF_wid {a : Nat} (ha : a + 1 < 256) : Wid (xorF a) 3 := Wid.two ha (xorF_hangs a) ((xorF_hangs a).ahead (Nat.le_refl _)) (CutLe.second (xorF_hangs a))
theorem not_wid {a : Nat} (ha : a + 1 < 256) : Wid (fun s => !s a) 1 := (Wid.two (p := 1) (q := 2) ha (((Hangs.var a).op1 (fun x => !x)).mono (by omega) (by omega)) (((Hangs.var a).op1 (fun x => !x)).ahead (by omega)) (((Hangs.var a).op1 (fun x => !x)).behind (by omega))) |> fun h => by
  refine ⟨fun v => if v = a then 1 else 0, fun v hv => ?_, ?_⟩
  · by_cases e : v = a
    · subst e
      refine .inr ?_
      simp only [if_true]
      exact ((Hangs.var v).op1 (fun x => !x)).ahead (Nat.le_refl _)
    · exact .inl (((Hangs.var a).op1 (fun x => !x)).free (by omega))
  · have := sumTo_two a 1 0 256
    simp at this
    split at this <;> omega
theorem SpOk.xor {w : World} {B S km : Nat} {A : Blks} {Mo : Nat} {σ : Sg} (h : SpOk w B S km A Mo σ) {f g : Nat} {F G : Fun} (hf : Den σ f F) (hg : Den σ g G) {k j : Nat} (wn : Wid (fun s => !G s) k) (wx : Wid (fun s => F s != G s) j) (hl : σ.N.length + (k + j) ≤ 2147483647) :
    Calls Tryz.prog 178 #[.pointer (some ⟨A.a, 0, none⟩), .int .i64 f, .int .i64 g] w (SpRes w B S km A Mo σ (fun s => F s != G s) (k + j) j) := by
  have two := h.ok.wf.two
  have fl := (h.ok.g f hf.1).1
  have gl := (h.ok.g g hg.1).1
  have wn' : Wid (fun s => if ev σ.N s g then ev σ.N s 0 else ev σ.N s 1) k := by
    rw [show (fun s => if ev σ.N s g then ev σ.N s 0 else ev σ.N s 1) = fun s => !G s from funext fun s => by rw [hg.2, ev_zero, ev_one]; cases G s <;> rfl]
    exact wn
  have wx' : ∀ q N1, IteTo σ.N g 0 1 q N1 → (fun s => if ev N1 s f then ev N1 s q else ev N1 s g) = fun s => F s != G s := fun q N1 t => funext fun s => by
    rw [t.sem, t.ext.ev h.ok.wf t.wf s fl, t.ext.ev h.ok.wf t.wf s gl, hf.2, hg.2, ev_zero, ev_one]
    cases F s <;> cases G s <;> rfl
  have cap2 : ∀ q N1, IteTo σ.N g 0 1 q N1 → Cap N1 f q g := fun q N1 t => by
    have := t.len two wn'
    refine Cap.of_wid (k := j) t.wf.two (by rw [wx' q N1 t]; exact wx) (by omega)
  refine (Xor_any f g h.sp.ar ⟨hf.1, fl⟩ ⟨hg.1, gl⟩ h.ok.hok (Cap.of_wid two wn' (by omega)) cap2).mono fun e' w' ho => h.op' ho (fun r N' t => ?_) ((hf.hangs h.ok).op2 (fun x y => x != y) (hg.hangs h.ok))
  obtain ⟨q, N1, t1, t2⟩ := t
  have l1 := t1.len two wn'
  have l2 := t2.len (k := j) t1.wf.two (by rw [wx' q N1 t1]; exact wx)
  have hs : ∀ s, ev N' s r = (F s != G s) := fun s => (t2.sem s).trans (congrFun (wx' q N1 t1) s)
  refine ⟨⟨t1.ext.trans t2.ext, hs⟩, by omega, newL_wid t2.wf σ.H t2.lt ?_⟩
  rw [show (fun s => ev N' s r) = fun s => F s != G s from funext hs]
  exact wx
/-- The bits i of 2 i and 2 i + 1 are the same, and more. -/
def eqF (a : Nat) (F : Fun) : Fun := fun s => (s a == s (a + 1)) && F s
def sameF (a nb : Nat) : Nat → Fun
  | 0 => fun _ => true
  | m + 1 => if a ≤ 103 - m ∧ 103 - m < a + nb then sameF a nb m else eqF (2 * (103 - m)) (sameF a nb m)
theorem Hangs.eqF {F : Fun} {x a b : Nat} (h : Hangs F a b) (h1 : x + 2 ≤ a) (h2 : x + 2 ≤ b) : Hangs (eqF x F) x b := fun s t e => by
  unfold Go.Proofs.YtbahehmfhjkgeaaGreat.eqF
  rw [e x (by omega) (by omega), e (x + 1) (by omega) (by omega), h s t fun u h3 h4 => e u (by omega) h4]
theorem sameF_hangs (a nb : Nat) : ∀ m, m ≤ 104 → Hangs (sameF a nb m) (2 * (104 - m)) 208
  | 0, _ => Hangs.const true _ _
  | m + 1, hm => by
    have := sameF_hangs a nb m (by omega)
    unfold sameF
    split
    · exact this.mono (by omega) (Nat.le_refl _)
    · exact (this.eqF (x := 2 * (103 - m)) (by omega) (by omega)).mono (by omega) (Nat.le_refl _)
theorem sumTo_pair (a p q : Nat) : sumTo (fun v => if v = a then p else if v = a + 1 then q else 0) (a + 2) ≤ p + q := by
  have := sumTo_two a p q (a + 2)
  rw [if_pos (by omega), if_pos (by omega)] at this
  exact this
/-- Two variables ahead of a node that is held: three nodes more. -/
theorem Den.pair {Mo : Nat} {σ : Sg} {g a : Nat} {F G : Fun} (d : Den σ g F) (o : SgOk Mo σ) (ha : a + 2 ≤ 208) (hG : Hangs G a 208) (hc : ∀ s, (∀ t, G (mixS (a + 1 + 1) s t) = F t) ∨ (∀ t, G (mixS (a + 1 + 1) s t) = false)) : Grow σ.N σ.H G 3 3 := by
  refine (Grow.top (u := a + 1) o.wf o.cl (fun i hi => (o.hok.2 i hi).2) (fun v => if v = a then 1 else if v = a + 1 then 2 else 0) (fun v hv => ?_) fun s => ?_).mono (sumTo_pair a 1 2) (sumTo_pair a 1 2)
  · by_cases e1 : v = a
    · subst e1
      refine .inr ?_
      simp only [if_true]
      exact hG.ahead (Nat.le_refl _)
    · by_cases e2 : v = a + 1
      · subst e2
        refine .inr ?_
        simp only [e1, if_false, if_true]
        exact CutLe.second hG
      · exact .inl (hG.free (by omega))
  · rcases hc s with h | h
    · exact ⟨g, (o.g g d.1).1, (o.g g d.1).2.1, fun t => by rw [h t, d.2]⟩
    · exact ⟨0, by have := o.wf.two; omega, .inl (by omega), fun t => by rw [h t, ev_zero]⟩
theorem Den.eqG {Mo : Nat} {σ : Sg} {g a : Nat} {F : Fun} (d : Den σ g F) (o : SgOk Mo σ) (ha : a + 2 ≤ 208) (hF : Hangs F (a + 2) 208) : Grow σ.N σ.H (eqF a F) 3 3 := by
  refine d.pair o ha (hF.eqF (Nat.le_refl _) ha) fun s => ?_
  have e : ∀ t, eqF a F (mixS (a + 1 + 1) s t) = ((s a == s (a + 1)) && F t) := fun t => by
    unfold eqF
    rw [mixS_low _ _ (by omega), mixS_low _ _ (by omega), hF (mixS (a + 1 + 1) s t) t fun u h1 _ => mixS_high _ _ (by omega)]
  cases hs : (s a == s (a + 1))
  · exact .inr fun t => by rw [e, hs]; rfl
  · exact .inl fun t => by rw [e, hs]; rfl
set_option maxRecDepth 100000 in
set_option maxHeartbeats 4000000 in
theorem same_any {w : World} {B S km : Nat} {A : Blks} {Mo : Nat} {σ : Sg} (h : SpOk w B S km A Mo σ) (a nb : Nat) (ha : a ≤ 104) (hnb : nb ≤ 104) (hl : σ.N.length + 936 ≤ 2147483647) :
    Calls Tryz.prog 89 #[.pointer (some ⟨S, 0, none⟩), .agg #[.int .i64 a, .int .i64 nb]] w (SpRes w B S km A Mo σ (sameF a nb 104) 936 936) := by
  have hbw := below1 w (.cells #[.int .i64 a, .int .i64 nb] 175)
  have hbk := blk1 w (.cells #[.int .i64 a, .int .i64 nb] 175)
  have hfo := h.sp.ar.foreign_new hbw (Nat.le_refl _) (lt_of_block hbk)
  have hfk := h.sp.fk.1
  have HBX : Hid (∀ W, KeptS A km (w.alloc (.cells #[.int .i64 a, .int .i64 nb] 175)) W → W.cell? ⟨w.heap.size, 0, none⟩ = some (.int .i64 a) ∧ W.cell? ⟨w.heap.size, 1, none⟩ = some (.int .i64 nb)) := Lib.hid fun W hW => by
    have hk := (hW.same _ hfo (by omega)).1.trans hbk
    exact ⟨by rw [cell_of_row W _ 0 _ _ (0, 0) hk]; rfl, by rw [cell_of_row W _ 1 _ _ (0, 0) hk]; rfl⟩
  have HK0 := Lib.hid (h.kept hbw)
  have HS := Lib.hid (h.below hbw)
  have ha1 : (a : Int) ≤ 104 := by omega
  have hb1 : (nb : Int) ≤ 104 := by omega
  clear h hbw hfo hfk hbk
  go_enter Tryz.func89, Tryz.ntmps89
  go_upto_region 2 with fail
  generalize w.alloc (.cells #[.int .i64 a, .int .i64 nb] 175) = w0 at *
  go_wp2
  go_loopw [6, 7] (fun f i wr => ∃ m : Nat, m ≤ 104 ∧ i = .int .i64 ((103 : Int) - m) ∧ ∃ (r : Nat) (τ : Sg), f = .int .i64 r ∧ Hid (SpOk wr B S km A Mo τ) ∧ Hid (To (9 * m) (9 * m) σ τ) ∧ Hid (Den τ r (sameF a nb m)) ∧ Hid (KeptS A km w0 wr)) (fun _ i _ => (intOf i + 1).toNat)
  case atStart => exact ⟨0, by omega, by simp, 1, σ, rfl, HS, Lib.hid (To.refl σ), Lib.hid (Den.one HS.out.ok), Lib.hid (KeptS.refl _ _ _)⟩
  case round =>
    obtain ⟨m, hm, rfl, r, τ, rfl, HS1, HT1, HD1, HK1⟩ := hrel
    by_cases hlt : m < 104
    · have hI : (103 : Int) - m ≥ 0 := by omega
      have c0 := HS1.out.sp.c0
      obtain ⟨b0, b1⟩ := HBX.out wr HK1.out
      by_cases hin : a ≤ 103 - m ∧ 103 - m < a + nb
      · have hi1 : (103 : Int) - m ≥ a := by omega
        have hi2 : (103 : Int) - m < (a : Int) + nb := by omega
        have HD2 : Hid (Den τ r (sameF a nb (m + 1))) := Lib.hid (by unfold sameF; rw [if_pos hin]; exact HD1.out)
        have HT2 := Lib.hid (HT1.out.mono (show 9 * m ≤ 9 * (m + 1) by omega) (show 9 * m ≤ 9 * (m + 1) by omega))
        clear hin
        go_wp2
        exact ⟨⟨m + 1, by omega, by go_num, r, τ, rfl, HS1, HT2, HD2, HK1⟩, by simp only [intOf]; omega⟩
      · have hcond : ¬ (103 : Int) - m ≥ a ∨ ((103 : Int) - m ≥ a ∧ ¬ (103 : Int) - m < (a : Int) + nb) := by omega
        obtain ⟨x, hx⟩ : ∃ x, x = 2 * (103 - m) := ⟨_, rfl⟩
        obtain ⟨y, hy⟩ : ∃ y, y = x + 1 := ⟨_, rfl⟩
        have hxi : ((103 - m : Nat) : Int) = (103 : Int) - m := by omega
        have HN := Lib.hid (show ∀ W, Calls Tryz.prog 84 #[.int .i64 ((103 : Int) - m)] W (fun e w' => e = .returned (.int .i64 (x : Int)) ∧ w' = W) from fun W => by
          have := now_any (103 - m) W (by omega)
          rw [hxi, Nat.add_zero, ← hx] at this
          exact this)
        have HN2 := Lib.hid (show ∀ W, Calls Tryz.prog 93 #[.int .i64 ((103 : Int) - m)] W (fun e w' => e = .returned (.int .i64 (y : Int)) ∧ w' = W) from fun W => by
          have := then_any (103 - m) W (by omega)
          rw [hxi, ← hx, ← hy] at this
          exact this)
        have hwd : Below wr.heap.size wr wr.drew := ⟨rfl, rfl, rfl, Nat.le_refl _, fun _ _ => rfl⟩
        have HSD := Lib.hid (HS1.out.below hwd)
        have HKD := Lib.hid (HK1.out.trans (HS1.out.kept hwd))
        have hnl := HT1.out.nl
        have hvar := Lib.hid (HSD.out.var x (by omega) (by omega))
        have HEQ : Hid (sameF a nb (m + 1) = eqF x (sameF a nb m)) := Lib.hid (by rw [hx]; exact if_neg hin)
        have HX := Lib.hid hx
        have HY := Lib.hid hy
        have HHF := Lib.hid ((sameF_hangs a nb m (by omega)).mono (show x + 2 ≤ 2 * (104 - m) by omega) (Nat.le_refl _))
        have HCO := Lib.hid hcond
        clear hxi hnl hwd hx hy hin hcond
        rcases HCO.out with hi1 | ⟨hi1, hi2⟩
        · go_upto_region 6 with fail
          go_region_held3 (fun w' => w'.cell? ⟨S, 0, none⟩ = some (.pointer (some ⟨A.a, 0, none⟩))) (first | exact hcs | go_keep) ((first
            | ((with_reducible refine (HN.out _).mono ?_); rintro e _ ⟨rfl, rfl⟩)
            | ((with_reducible refine hvar.out.mono ?_); rintro e W5 hr5; obtain ⟨q5, c5, he5⟩ := hr5.form; have HR5 := Lib.hid hr5; subst he5; have hcs : W5.cell? ⟨S, 0, none⟩ = some (.pointer (some ⟨A.a, 0, none⟩)) := hr5.c0; clear hr5)))
          have hfin5 := HR5.out.two
          clear hcs
          rcases hfin5 with ⟨rfl, rfl, hlt5, τ5, hs5, ht5⟩ | ⟨r5, τ5, rfl, rfl, hs5, ht5, hd5⟩
          · have HFIN := Lib.hid (SpRes.full (F := sameF a nb 104) (HK0.out.trans (HKD.out.trans HR5.out.1)) rfl (by have := HT1.out.hl; omega) hs5 ((HT1.out.trans ht5).mono (show 9 * m + 1 ≤ 936 by omega) (show 9 * m + 1 ≤ 936 by omega)))
            clear hlt5 hs5 ht5
            go_wp2
            go_ret2
            exact HFIN.out
          · have HS5 := Lib.hid hs5
            have HT5 := Lib.hid (HT1.out.trans ht5)
            have HD5 := Lib.hid hd5
            have HK5 := Lib.hid (HKD.out.trans HR5.out.1)
            have c5 := hs5.sp.c0
            have HD5r := Lib.hid (HD1.out.to ht5 HS1.out.ok hs5.ok)
            have hwd5 : Below W5.heap.size W5 W5.drew := ⟨rfl, rfl, rfl, Nat.le_refl _, fun _ _ => rfl⟩
            have HSD5 := Lib.hid (hs5.below hwd5)
            have HKD5 := Lib.hid (HK5.out.trans (hs5.kept hwd5))
            have hn5 := HT5.out.nl
            have hx5 := HX.out
            have hy5 := HY.out
            have hvar2 := Lib.hid (HSD5.out.var y (by omega) (by omega))
            clear hs5 ht5 hd5 HR5 hvar HN c0 b0 b1 HSD HS1 HT1 HD1 HK1 hwd5 hn5 hx5 hy5
            go_upto_region 9 with fail
            go_region_held3 (fun w' => w'.cell? ⟨S, 0, none⟩ = some (.pointer (some ⟨A.a, 0, none⟩))) (first | exact hcs | go_keep) ((first
              | ((with_reducible refine (HN2.out _).mono ?_); rintro e _ ⟨rfl, rfl⟩)
              | ((with_reducible refine hvar2.out.mono ?_); rintro e W6 hr6; obtain ⟨q6, c6, he6⟩ := hr6.form; have HR6 := Lib.hid hr6; subst he6; have hcs : W6.cell? ⟨S, 0, none⟩ = some (.pointer (some ⟨A.a, 0, none⟩)) := hr6.c0; clear hr6)))
            have hfin6 := HR6.out.two
            clear hcs
            rcases hfin6 with ⟨rfl, rfl, hlt6, τ6, hs6, ht6⟩ | ⟨r6, τ6, rfl, rfl, hs6, ht6, hd6⟩
            · have HFIN := Lib.hid (SpRes.full (F := sameF a nb 104) (HK0.out.trans (HKD5.out.trans HR6.out.1)) rfl (by have := HT5.out.hl; omega) hs6 ((HT5.out.trans ht6).mono (show 9 * m + 1 + 1 ≤ 936 by omega) (show 9 * m + 1 + 1 ≤ 936 by omega)))
              clear hlt6 hs6 ht6
              go_wp2
              go_ret2
              exact HFIN.out
            · have HS6 := Lib.hid hs6
              have HT6 := Lib.hid (HT5.out.trans ht6)
              have HK6 := Lib.hid (HKD5.out.trans HR6.out.1)
              have c6 := hs6.sp.c0
              have HD6r := Lib.hid (HD5r.out.to ht6 HS5.out.ok hs6.ok)
              have hn6 := HT6.out.nl
              have hx6 := HX.out
              rw [HY.out] at hd6
              have HXOR := Lib.hid (show Calls Tryz.prog 178 #[.pointer (some ⟨A.a, 0, none⟩), .int .i64 r5, .int .i64 r6] W6 (SpRes W6 B S km A Mo τ6 (xorF x) 4 3) from hs6.xor (HD5.out.to ht6 HS5.out.ok hs6.ok) hd6 (k := 1) (j := 3) (not_wid (by omega)) (xorF_wid (by omega)) (by omega))
              clear hs6 ht6 hd6 HR6 hvar2 HN2 HSD5 HS5 HT5 HD5 HD5r HK5 hn6 hx6
              go_upto_region 13 with ((with_reducible refine HXOR.out.mono ?_); rintro e W7 hr7; obtain ⟨q7, c7, he7⟩ := hr7.form; have HR7 := Lib.hid hr7; subst he7; clear hr7)
              have hfin7 := HR7.out.two
              rcases hfin7 with ⟨rfl, rfl, hlt7, τ7, hs7, ht7⟩ | ⟨r7, τ7, rfl, rfl, hs7, ht7, hd7⟩
              · have HFIN := Lib.hid (SpRes.full (F := sameF a nb 104) (HK0.out.trans (HK6.out.trans HR7.out.1)) rfl (by have := HT6.out.hl; omega) hs7 ((HT6.out.trans ht7).mono (show 9 * m + 1 + 1 + 4 ≤ 936 by omega) (show 9 * m + 1 + 1 + 3 ≤ 936 by omega)))
                clear hlt7 hs7 ht7
                go_wp2
                go_ret2
                exact HFIN.out
              · have HS7 := Lib.hid hs7
                have HT7 := Lib.hid (HT6.out.trans ht7)
                have HK7 := Lib.hid (HK6.out.trans HR7.out.1)
                have c7 := hs7.sp.c0
                have hd7r := HD6r.out.to ht7 HS6.out.ok hs7.ok
                have hn7 := HT7.out.nl
                have hx7 := HX.out
                have he7 : (fun s => if xorF x s then false else sameF a nb m s) = eqF x (sameF a nb m) := funext fun s => by
                  unfold xorF eqF
                  cases s x <;> cases s (x + 1) <;> rfl
                have hgr := hd7r.eqG hs7.ok (show x + 2 ≤ 208 by omega) HHF.out
                rw [← he7] at hgr
                have hite := hs7.ite hd7 (Den.zero hs7.ok) hd7r (a := 3) (b := 3) hgr (by omega)
                rw [he7] at hite
                have HITE := Lib.hid (show Calls Tryz.prog 92 #[.pointer (some ⟨A.a, 0, none⟩), .int .i64 r7, .int .i64 0, .int .i64 r] W7 (SpRes W7 B S km A Mo τ7 (eqF x (sameF a nb m)) 3 3) from hite)
                clear hs7 ht7 hd7 hd7r HR7 HXOR HS6 HT6 HD6r HK6 hn7 hx7 he7 hgr hite
                go_upto_region 16 with ((with_reducible refine HITE.out.mono ?_); rintro e W8 hr8; obtain ⟨q8, c8, he8⟩ := hr8.form; have HR8 := Lib.hid hr8; subst he8; clear hr8)
                have hfin8 := HR8.out.two
                rcases hfin8 with ⟨rfl, rfl, hlt8, τ8, hs8, ht8⟩ | ⟨r8, τ8, rfl, rfl, hs8, ht8, hd8⟩
                · have HFIN := Lib.hid (SpRes.full (F := sameF a nb 104) (HK0.out.trans (HK7.out.trans HR8.out.1)) rfl (by have := HT7.out.hl; omega) hs8 ((HT7.out.trans ht8).mono (show 9 * m + 1 + 1 + 4 + 3 ≤ 936 by omega) (show 9 * m + 1 + 1 + 3 + 3 ≤ 936 by omega)))
                  clear hlt8 hs8 ht8
                  go_wp2
                  go_ret2
                  exact HFIN.out
                · have HS8 := Lib.hid hs8
                  have HT8 := Lib.hid ((HT7.out.trans ht8).mono (show 9 * m + 1 + 1 + 4 + 3 ≤ 9 * (m + 1) by omega) (show 9 * m + 1 + 1 + 3 + 3 ≤ 9 * (m + 1) by omega))
                  have HK8 := Lib.hid (HK7.out.trans HR8.out.1)
                  have HD8 : Hid (Den τ8 r8 (sameF a nb (m + 1))) := Lib.hid (by rw [HEQ.out]; exact hd8)
                  clear hs8 ht8 hd8 HR8 HITE HS7 HT7 HK7
                  go_wp2
                  exact ⟨⟨m + 1, by omega, by go_num, r8, τ8, rfl, HS8, HT8, HD8, HK8⟩, by simp only [intOf]; omega⟩
        · go_upto_region 6 with fail
          go_region_held3 (fun w' => w'.cell? ⟨S, 0, none⟩ = some (.pointer (some ⟨A.a, 0, none⟩))) (first | exact hcs | go_keep) ((first
            | ((with_reducible refine (HN.out _).mono ?_); rintro e _ ⟨rfl, rfl⟩)
            | ((with_reducible refine hvar.out.mono ?_); rintro e W5 hr5; obtain ⟨q5, c5, he5⟩ := hr5.form; have HR5 := Lib.hid hr5; subst he5; have hcs : W5.cell? ⟨S, 0, none⟩ = some (.pointer (some ⟨A.a, 0, none⟩)) := hr5.c0; clear hr5)))
          have hfin5 := HR5.out.two
          clear hcs
          rcases hfin5 with ⟨rfl, rfl, hlt5, τ5, hs5, ht5⟩ | ⟨r5, τ5, rfl, rfl, hs5, ht5, hd5⟩
          · have HFIN := Lib.hid (SpRes.full (F := sameF a nb 104) (HK0.out.trans (HKD.out.trans HR5.out.1)) rfl (by have := HT1.out.hl; omega) hs5 ((HT1.out.trans ht5).mono (show 9 * m + 1 ≤ 936 by omega) (show 9 * m + 1 ≤ 936 by omega)))
            clear hlt5 hs5 ht5
            go_wp2
            go_ret2
            exact HFIN.out
          · have HS5 := Lib.hid hs5
            have HT5 := Lib.hid (HT1.out.trans ht5)
            have HD5 := Lib.hid hd5
            have HK5 := Lib.hid (HKD.out.trans HR5.out.1)
            have c5 := hs5.sp.c0
            have HD5r := Lib.hid (HD1.out.to ht5 HS1.out.ok hs5.ok)
            have hwd5 : Below W5.heap.size W5 W5.drew := ⟨rfl, rfl, rfl, Nat.le_refl _, fun _ _ => rfl⟩
            have HSD5 := Lib.hid (hs5.below hwd5)
            have HKD5 := Lib.hid (HK5.out.trans (hs5.kept hwd5))
            have hn5 := HT5.out.nl
            have hx5 := HX.out
            have hy5 := HY.out
            have hvar2 := Lib.hid (HSD5.out.var y (by omega) (by omega))
            clear hs5 ht5 hd5 HR5 hvar HN c0 b0 b1 HSD HS1 HT1 HD1 HK1 hwd5 hn5 hx5 hy5
            go_upto_region 9 with fail
            go_region_held3 (fun w' => w'.cell? ⟨S, 0, none⟩ = some (.pointer (some ⟨A.a, 0, none⟩))) (first | exact hcs | go_keep) ((first
              | ((with_reducible refine (HN2.out _).mono ?_); rintro e _ ⟨rfl, rfl⟩)
              | ((with_reducible refine hvar2.out.mono ?_); rintro e W6 hr6; obtain ⟨q6, c6, he6⟩ := hr6.form; have HR6 := Lib.hid hr6; subst he6; have hcs : W6.cell? ⟨S, 0, none⟩ = some (.pointer (some ⟨A.a, 0, none⟩)) := hr6.c0; clear hr6)))
            have hfin6 := HR6.out.two
            clear hcs
            rcases hfin6 with ⟨rfl, rfl, hlt6, τ6, hs6, ht6⟩ | ⟨r6, τ6, rfl, rfl, hs6, ht6, hd6⟩
            · have HFIN := Lib.hid (SpRes.full (F := sameF a nb 104) (HK0.out.trans (HKD5.out.trans HR6.out.1)) rfl (by have := HT5.out.hl; omega) hs6 ((HT5.out.trans ht6).mono (show 9 * m + 1 + 1 ≤ 936 by omega) (show 9 * m + 1 + 1 ≤ 936 by omega)))
              clear hlt6 hs6 ht6
              go_wp2
              go_ret2
              exact HFIN.out
            · have HS6 := Lib.hid hs6
              have HT6 := Lib.hid (HT5.out.trans ht6)
              have HK6 := Lib.hid (HKD5.out.trans HR6.out.1)
              have c6 := hs6.sp.c0
              have HD6r := Lib.hid (HD5r.out.to ht6 HS5.out.ok hs6.ok)
              have hn6 := HT6.out.nl
              have hx6 := HX.out
              rw [HY.out] at hd6
              have HXOR := Lib.hid (show Calls Tryz.prog 178 #[.pointer (some ⟨A.a, 0, none⟩), .int .i64 r5, .int .i64 r6] W6 (SpRes W6 B S km A Mo τ6 (xorF x) 4 3) from hs6.xor (HD5.out.to ht6 HS5.out.ok hs6.ok) hd6 (k := 1) (j := 3) (not_wid (by omega)) (xorF_wid (by omega)) (by omega))
              clear hs6 ht6 hd6 HR6 hvar2 HN2 HSD5 HS5 HT5 HD5 HD5r HK5 hn6 hx6
              go_upto_region 13 with ((with_reducible refine HXOR.out.mono ?_); rintro e W7 hr7; obtain ⟨q7, c7, he7⟩ := hr7.form; have HR7 := Lib.hid hr7; subst he7; clear hr7)
              have hfin7 := HR7.out.two
              rcases hfin7 with ⟨rfl, rfl, hlt7, τ7, hs7, ht7⟩ | ⟨r7, τ7, rfl, rfl, hs7, ht7, hd7⟩
              · have HFIN := Lib.hid (SpRes.full (F := sameF a nb 104) (HK0.out.trans (HK6.out.trans HR7.out.1)) rfl (by have := HT6.out.hl; omega) hs7 ((HT6.out.trans ht7).mono (show 9 * m + 1 + 1 + 4 ≤ 936 by omega) (show 9 * m + 1 + 1 + 3 ≤ 936 by omega)))
                clear hlt7 hs7 ht7
                go_wp2
                go_ret2
                exact HFIN.out
              · have HS7 := Lib.hid hs7
                have HT7 := Lib.hid (HT6.out.trans ht7)
                have HK7 := Lib.hid (HK6.out.trans HR7.out.1)
                have c7 := hs7.sp.c0
                have hd7r := HD6r.out.to ht7 HS6.out.ok hs7.ok
                have hn7 := HT7.out.nl
                have hx7 := HX.out
                have he7 : (fun s => if xorF x s then false else sameF a nb m s) = eqF x (sameF a nb m) := funext fun s => by
                  unfold xorF eqF
                  cases s x <;> cases s (x + 1) <;> rfl
                have hgr := hd7r.eqG hs7.ok (show x + 2 ≤ 208 by omega) HHF.out
                rw [← he7] at hgr
                have hite := hs7.ite hd7 (Den.zero hs7.ok) hd7r (a := 3) (b := 3) hgr (by omega)
                rw [he7] at hite
                have HITE := Lib.hid (show Calls Tryz.prog 92 #[.pointer (some ⟨A.a, 0, none⟩), .int .i64 r7, .int .i64 0, .int .i64 r] W7 (SpRes W7 B S km A Mo τ7 (eqF x (sameF a nb m)) 3 3) from hite)
                clear hs7 ht7 hd7 hd7r HR7 HXOR HS6 HT6 HD6r HK6 hn7 hx7 he7 hgr hite
                go_upto_region 16 with ((with_reducible refine HITE.out.mono ?_); rintro e W8 hr8; obtain ⟨q8, c8, he8⟩ := hr8.form; have HR8 := Lib.hid hr8; subst he8; clear hr8)
                have hfin8 := HR8.out.two
                rcases hfin8 with ⟨rfl, rfl, hlt8, τ8, hs8, ht8⟩ | ⟨r8, τ8, rfl, rfl, hs8, ht8, hd8⟩
                · have HFIN := Lib.hid (SpRes.full (F := sameF a nb 104) (HK0.out.trans (HK7.out.trans HR8.out.1)) rfl (by have := HT7.out.hl; omega) hs8 ((HT7.out.trans ht8).mono (show 9 * m + 1 + 1 + 4 + 3 ≤ 936 by omega) (show 9 * m + 1 + 1 + 3 + 3 ≤ 936 by omega)))
                  clear hlt8 hs8 ht8
                  go_wp2
                  go_ret2
                  exact HFIN.out
                · have HS8 := Lib.hid hs8
                  have HT8 := Lib.hid ((HT7.out.trans ht8).mono (show 9 * m + 1 + 1 + 4 + 3 ≤ 9 * (m + 1) by omega) (show 9 * m + 1 + 1 + 3 + 3 ≤ 9 * (m + 1) by omega))
                  have HK8 := Lib.hid (HK7.out.trans HR8.out.1)
                  have HD8 : Hid (Den τ8 r8 (sameF a nb (m + 1))) := Lib.hid (by rw [HEQ.out]; exact hd8)
                  clear hs8 ht8 hd8 HR8 HITE HS7 HT7 HK7
                  go_wp2
                  exact ⟨⟨m + 1, by omega, by go_num, r8, τ8, rfl, HS8, HT8, HD8, HK8⟩, by simp only [intOf]; omega⟩
    · obtain rfl : m = 104 := by omega
      have hI : ¬ (103 : Int) - (104 : Nat) ≥ 0 := by omega
      have HFIN : Hid (SpRes w B S km A Mo σ (sameF a nb 104) 936 936 (.returned (.tuple #[.int .i64 r, .int .i64 0])) wr) := Lib.hid ⟨HK0.out.trans HK1.out, .inr ⟨r, τ, rfl, HS1.out, HT1.out, HD1.out⟩⟩
      go_wp2
      go_ret2
      exact HFIN.out
end Go.Proofs.YtbahehmfhjkgeaaGreat

/-
  Plain lemmas on numbers that the walks of this seat use; no program in sight.
-/
namespace Go.Proofs.YtbahehmfhjkgeaaGreat
open Go.RowKit

/-- Two to the k, as an integer, behind a name. -/
def p2 (k : Nat) : Int := 2 ^ k
theorem p2_zero : p2 0 = 1 := rfl
theorem p2_succ (k : Nat) : p2 (k + 1) = 2 * p2 k := by unfold p2; rw [Int.pow_succ]; omega
theorem p2_pos (k : Nat) : 1 ≤ p2 k := by
  induction k with
  | zero => simp [p2_zero]
  | succ k ih => rw [p2_succ]; omega
theorem p2_mono {j k : Nat} (h : j ≤ k) : p2 j ≤ p2 k := by
  induction k with
  | zero => have : j = 0 := by omega
            subst this; exact Int.le_refl _
  | succ k ih =>
    rcases Nat.lt_or_ge j (k + 1) with h1 | h1
    · have := ih (by omega); have := p2_pos k; rw [p2_succ]; omega
    · have : j = k + 1 := by omega
      subst this; exact Int.le_refl _
theorem p2_32 : p2 32 = 4294967296 := by decide
theorem p2_le32 {k : Nat} (h : k ≤ 32) : p2 k ≤ 4294967296 := by have := p2_mono h; rw [p2_32] at this; exact this


/-- How many addresses are in a prefix of n bits. -/
def sz (n : Int) : Int := p2 (32 - n.toNat)
theorem sz_pos (n : Int) : 1 ≤ sz n := p2_pos _
theorem sz_le (n : Int) : sz n ≤ 4294967296 := p2_le32 (by omega)
theorem sz_dvd (n : Int) : sz n ∣ 4294967296 := by
  refine ⟨p2 (32 - (32 - n.toNat)), ?_⟩
  rw [← p2_32]; unfold sz p2
  rw [← Int.pow_add]; congr 1; omega
/-- The refusal of a prefix: 0, 1 (bits out of range), 10 (bits behind the mask). -/
def chk (a n : Int) : Int := if n < 0 ∨ 32 < n then 1 else if a % sz n = 0 then 0 else 10
theorem chk_range (a n : Int) (h : n < 0 ∨ 32 < n) : chk a n = 1 := by unfold chk; rw [if_pos h]
theorem chk_zero (a n : Int) (h0 : 0 ≤ n) (h1 : n ≤ 32) (h : a % sz n = 0) : chk a n = 0 := by unfold chk; rw [if_neg (by omega), if_pos h]
theorem chk_mask (a n : Int) (h0 : 0 ≤ n) (h1 : n ≤ 32) (h : ¬ a % sz n = 0) : chk a n = 10 := by unfold chk; rw [if_neg (by omega), if_neg h]
theorem chk_ok {a n : Int} (h : chk a n = 0) : 0 ≤ n ∧ n ≤ 32 ∧ a % sz n = 0 := by
  unfold chk at h
  split at h
  · simp at h
  · split at h
    · rename_i h1 h2; exact ⟨by omega, by omega, h2⟩
    · simp at h
/-- Is an address in a prefix? -/
def inB (x a n : Int) : Bool := decide (chk a n = 0 ∧ a ≤ x ∧ x < a + sz n)


/-- The exponent of the greatest power of two, at most 2^k, that divides the place and does not go beyond the end. -/
def pick (a e : Int) : Nat → Nat
  | 0 => 0
  | k + 1 => if a % p2 (k + 1) = 0 ∧ a + p2 (k + 1) ≤ e then k + 1 else pick a e k
/-- The prefixes of the places from a up to (not with) e. -/
def cutL (e : Int) : Nat → Int → List (Int × Int)
  | 0, _ => []
  | f + 1, a => if a < e then (a, 32 - (pick a e 32 : Int)) :: cutL e f (a + p2 (pick a e 32)) else []
end Go.Proofs.YtbahehmfhjkgeaaGreat

/-
  Walks over the leaves of the addresses' layer: the reference's size, the program's behind.
-/
namespace Go.Proofs.YtbahehmfhjkgeaaGreat
open Go.RowKit

set_option maxHeartbeats 400000 in
theorem size_any (n : Int) (w : World) (h0 : 0 ≤ n) (h1 : n ≤ 32) :
    Calls Tryz.prog 101 #[.int .i64 n] w fun e w' => e = .returned (.int .u64 (sz n)) ∧ w = w' := by
  obtain ⟨m, rfl⟩ := Int.eq_ofNat_of_zero_le h0
  have hm : m ≤ 32 := by omega
  clear h0
  go_enter Tryz.func101, Tryz.ntmps101
  go_wp2
  go_loop [3, 4] (fun out i => ∃ j : Nat, m + j ≤ 32 ∧ i = .int .i64 ↑(m + j) ∧ out = .int .u64 (p2 j)) (fun _ i => 32 - (intOf i).toNat)
  case atStart => exact ⟨0, by omega, rfl, rfl⟩
  case round =>
    obtain ⟨j, hj, rfl, rfl⟩ := hrel
    have hp := p2_pos j
    have hq := p2_le32 (k := j) (by omega)
    by_cases hlt : m + j < 32
    · go_wp2
      go_round
      case rel => exact ⟨j + 1, by omega, by go_num, by rw [p2_succ]⟩
      case measure => simp [intOf]; omega
    · have e : 32 - m = j := by omega
      have E := Lib.hid e
      clear e
      go_wp2
      go_ret
      unfold sz
      rw [Int.toNat_natCast, E.out]
      exact ⟨rfl, rfl⟩

end Go.Proofs.YtbahehmfhjkgeaaGreat

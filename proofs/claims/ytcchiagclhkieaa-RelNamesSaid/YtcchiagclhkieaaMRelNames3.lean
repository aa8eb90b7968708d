/-
  Joined texts: Bm5, Bm6, Bm7, Bm8, Bm9, Bm10, Bm11.
-/
import Derived.Test.YtcchiagclhkieaaMRelNames2
import Derived.Deep.CutBlock
import Derived.Carry
/-
  The walks of the arena's give: what is handed out, and what is held from then on.
-/
namespace Go.Proofs.Ytcchiagclhkieaa
open Go Go.RowKit Go.ChangeMaps Go.MapKept Go.Maps Go.Lib Go.Sort

/-- The nodes that a walk from f comes to, behind F, those of H left out. -/
def dfs (N : List Nd) (H : List Nat) : Nat → Nat → List Nat → List Nat
  | 0, _, F => F
  | n + 1, f, F => if f < 2 ∨ f ∈ F ∨ f ∈ H then F else dfs N H n (nd N f).hi (dfs N H n (nd N f).lo (F ++ [f]))
theorem nodup_le : ∀ (n : Nat) (l : List Nat), l.Nodup → (∀ i ∈ l, i < n) → l.length ≤ n
  | 0, l, _, h => by
    cases l with
    | nil => simp
    | cons a r => exact absurd (h a (List.mem_cons_self ..)) (by omega)
  | n + 1, l, hn, h => by
    have ih := nodup_le n (l.erase n) (hn.erase n) fun i hi => by
      have h1 := (hn.mem_erase_iff).1 hi
      have h2 := h i h1.2
      have h3 := h1.1
      omega
    by_cases hm : n ∈ l
    · rw [List.length_erase_of_mem hm] at ih
      omega
    · rw [List.erase_of_not_mem hm] at ih
      omega
/-- New nodes: none twice, none out of the arena. -/
def FOk (N : List Nd) (F : List Nat) : Prop := F.Nodup ∧ ∀ i ∈ F, 2 ≤ i ∧ i < N.length
theorem FOk.len {N : List Nd} {F : List Nat} (h : FOk N F) : F.length ≤ N.length := nodup_le _ _ h.1 fun i hi => (h.2 i hi).2
theorem FOk.snoc {N : List Nd} {F : List Nat} (h : FOk N F) {f : Nat} (h2 : 2 ≤ f) (hf : f < N.length) (hF : f ∉ F) : FOk N (F ++ [f]) := by
  refine ⟨?_, fun i hi => ?_⟩
  · rw [List.nodup_append]
    refine ⟨h.1, by simp, fun a ha b hb => ?_⟩
    simp at hb
    subst hb
    intro e
    subst e
    exact hF ha
  · rcases List.mem_append.1 hi with hi | hi
    · exact h.2 i hi
    · simp at hi; subst hi; exact ⟨h2, hf⟩
theorem dfs_ok {N : List Nd} (w : WF N) (H : List Nat) : ∀ (n f : Nat) (F : List Nat), f < N.length → FOk N F → FOk N (dfs N H n f F)
  | 0, _, _, _, h => h
  | n + 1, f, F, hf, h => by
    unfold dfs
    by_cases hc : f < 2 ∨ f ∈ F ∨ f ∈ H
    · rw [if_pos hc]; exact h
    · rw [if_neg hc]
      have h2 : 2 ≤ f := by omega
      have hl := w.lo f h2 hf
      have hh := w.hi f h2 hf
      exact dfs_ok w H n _ _ (by omega) (dfs_ok w H n _ _ (by omega) (h.snoc h2 hf fun e => hc (.inr (.inl e))))
def seenL (F : List Nat) : List (Value × Value) := (.int .i32 0, .bool true) :: (.int .i32 1, .bool true) :: heldL F
theorem heldL_keys (H : List Nat) : (heldL H).map (·.1) = H.map fun (i : Nat) => Value.int .i32 (i : Int) := by
  unfold heldL
  rw [List.map_map]; rfl
theorem heldL_get (H : List Nat) (f : Nat) : getM (heldL H) (.int .i32 f) = if f ∈ H then some (.bool true) else none := by
  induction H with
  | nil => rfl
  | cons a r ih =>
    show getM ((Value.int .i32 (a : Int), Value.bool true) :: heldL r) _ = _
    unfold getM at ih ⊢
    by_cases h : a = f
    · subst h
      rw [List.find?_cons_of_pos (by simp), if_pos (List.mem_cons_self ..)]
      rfl
    · rw [List.find?_cons_of_neg (by simp; omega), ih]
      by_cases hm : f ∈ r
      · rw [if_pos hm, if_pos (List.mem_cons_of_mem _ hm)]
      · rw [if_neg hm, if_neg (fun h' => by rcases List.mem_cons.1 h' with e | e; exact h e.symm; exact hm e)]
theorem seenL_get (F : List Nat) (f : Nat) : getM (seenL F) (.int .i32 f) = if f < 2 ∨ f ∈ F then some (.bool true) else none := by
  unfold seenL getM
  by_cases h0 : f = 0
  · subst h0
    rw [List.find?_cons_of_pos (by simp), if_pos (.inl (by omega))]; rfl
  · rw [List.find?_cons_of_neg (by simp; omega)]
    by_cases h1 : f = 1
    · subst h1
      rw [List.find?_cons_of_pos (by simp), if_pos (.inl (by omega))]; rfl
    · rw [List.find?_cons_of_neg (by simp; omega)]
      have := heldL_get F f
      unfold getM at this
      rw [this]
      by_cases hm : f ∈ F
      · rw [if_pos hm, if_pos (.inr hm)]
      · rw [if_neg hm, if_neg (by rintro (h | h); omega; exact hm h)]
theorem seenL_put (F : List Nat) (f : Nat) (h2 : 2 ≤ f) (hf : f ∉ F) : putM (seenL F) (.int .i32 f) (.bool true) = seenL (F ++ [f]) := by
  have hk : (Value.int .i32 (f : Int)) ∉ (seenL F).map (·.1) := by
    unfold seenL
    simp only [List.map_cons, heldL_keys, List.mem_cons, List.mem_map, not_or, not_exists, not_and]
    refine ⟨by simp; omega, by simp; omega, fun x hx e => hf ?_⟩
    have : x = f := by simp at e; omega
    rw [← this]; exact hx
  unfold putM
  rw [if_neg hk]
  simp [seenL, heldL]
/-- The frame of give's walk: the boxes, what was seen, what is new. -/
structure GSt (w : World) (A : Blks) (bs ba bf bw bm : Nat) (F : List Nat) (W : World) : Prop where
  s : W.heap[bs]? = some (.cells #[.map (some bm)] 97 (0, 0))
  a : W.heap[ba]? = some (.cells #[.pointer (some ⟨A.a, 0, none⟩)] 64 (0, 0))
  k : W.heap[bw]? = some (.cells #[.func (.func 82) #[] #[.pointer (some ⟨bs, 0, none⟩), .pointer (some ⟨ba, 0, none⟩), .pointer (some ⟨bf, 0, none⟩), .pointer (some ⟨bw, 0, none⟩)]] 122 (0, 0))
  f : ∃ fv, W.heap[bf]? = some (.cells #[fv] 106 (0, 0)) ∧ W.ownsRow w.heap.size 21 1 fv F.length (F.map fun (i : Nat) => Value.int .i32 (i : Int)) ∧ fv.ownBlock ≠ some bs ∧ fv.ownBlock ≠ some ba ∧ fv.ownBlock ≠ some bw ∧ fv.ownBlock ≠ some bf ∧ fv.ownBlock ≠ some bm
  m : MapAt Try.prog 21 W bm (seenL F)
  ne : bs ≠ ba ∧ bs ≠ bf ∧ bs ≠ bw ∧ bs ≠ bm ∧ ba ≠ bf ∧ ba ≠ bw ∧ ba ≠ bm ∧ bf ≠ bw ∧ bf ≠ bm ∧ bw ≠ bm
  ge : w.heap.size ≤ bs ∧ w.heap.size ≤ ba ∧ w.heap.size ≤ bf ∧ w.heap.size ≤ bw ∧ w.heap.size ≤ bm
  b : Below w.heap.size w W
theorem GSt.below {w W W' : World} {A : Blks} {bs ba bf bw bm : Nat} {F : List Nat} (g : GSt w A bs ba bf bw bm F W) (hb : Below W.heap.size W W') : GSt w A bs ba bf bw bm F W' := by
  obtain ⟨fv, h1, h2, h3⟩ := g.f
  exact ⟨blk_below hb g.s, blk_below hb g.a, blk_below hb g.k, ⟨fv, blk_below hb h1, owns_kept_none h2 (only_of_below hb none), h3⟩, g.m.same (hb.block _ g.m.lt), g.ne, g.ge, g.b.trans (hb.mono g.b.size)⟩
theorem cell0 {w : World} {k : Nat} {u : Value} {t : TypeId} (h : w.heap[k]? = some (.cells #[u] t (0, 0))) : w.cell? ⟨k, 0, none⟩ = some u := by
  rw [cell_of_row w _ 0 _ _ (0, 0) h]; rfl
/-- One node more in give's walk. -/
theorem GSt.put {w W w1 w2 : World} {A : Blks} {bs ba bf bw bm : Nat} {F : List Nat} {f : Nat} {fv v2 : Value} (g : GSt w A bs ba bf bw bm F W) (hfv : W.heap[bf]? = some (.cells #[fv] 106 (0, 0)))
    (hown : W.ownsRow w.heap.size 21 1 fv F.length (F.map fun (i : Nat) => Value.int .i32 (i : Int))) (ho : fv.ownBlock ≠ some bs ∧ fv.ownBlock ≠ some ba ∧ fv.ownBlock ≠ some bw ∧ fv.ownBlock ≠ some bf ∧ fv.ownBlock ≠ some bm)
    (hm : MapAt Try.prog 21 w1 bm (putM (seenL F) (.int .i32 f) (.bool true))) (hg1 : W.grownBy w1 (some bm)) (h2 : 2 ≤ f) (hf : f ∉ F)
    (hown2 : w2.ownsRow w.heap.size 21 1 v2 (F.length + 1) ((F.map fun (i : Nat) => Value.int .i32 (i : Int)) ++ [.int .i32 f])) (hg2 : w1.grownBy w2 fv.ownBlock) (hmv : Moved fv v2 w1.heap.size) :
    GSt w A bs ba bf bw bm (F ++ [f]) (w2.setCell ⟨bf, 0, none⟩ v2) ∧ w2.heap[bf]? = some (.cells #[fv] 106 (0, 0)) := by
  obtain ⟨o1, o2, o3, o4, o5⟩ := ho
  obtain ⟨n1, n2, n3, n4, n5, n6, n7, n8, n9, n10⟩ := g.ne
  obtain ⟨e1, e2, e3, e4, e5⟩ := g.ge
  have ls := lt_of_block g.s
  have la := lt_of_block g.a
  have lk := lt_of_block g.k
  have lf := lt_of_block hfv
  have lm := g.m.lt
  have z1 := hg1.size
  have z2 := hg2.size
  have s1 : ∀ k, k < W.heap.size → k ≠ bm → fv.ownBlock ≠ some k → w2.heap[k]? = W.heap[k]? := fun k hk hkm hko => (hg2.block k (by omega) (fun e => hko e.symm)).trans (hg1.block k hk (fun e => hkm (by injection e)))
  have s2 : ∀ k, k < W.heap.size → k ≠ bm → k ≠ bf → fv.ownBlock ≠ some k → (w2.setCell ⟨bf, 0, none⟩ v2).heap[k]? = W.heap[k]? := fun k hk hkm hkf hko => (Below.heap_setCell w2 ⟨bf, 0, none⟩ v2 k hkf).trans (s1 k hk hkm hko)
  have off : ∀ k, k < W.heap.size → fv.ownBlock ≠ some k → v2.ownBlock ≠ some k := fun k hk hko e => by
    rcases hmv with h | h
    · rw [h] at e; exact hko e
    · have := h k e; omega
  have c2 := (s1 bf lf n9 o4).trans hfv
  have hsz : (w2.setCell ⟨bf, 0, none⟩ v2).heap.size = w2.heap.size := by simp [World.setCell]
  refine ⟨⟨(s2 bs ls n4 n2 o1).trans g.s, (s2 ba la n7 n5 o2).trans g.a, (s2 bw lk n10.symm.symm (fun e => n8 e.symm) o3).trans g.k, ⟨v2, set_at c2, ?_, off bs ls o1, off ba la o2, off bw lk o3, off bf lf o4, off bm lm o5⟩, ?_, g.ne, g.ge, ⟨?_, ?_, ?_, ?_, ?_⟩⟩, c2⟩
  · rw [List.length_append, List.map_append]
    exact owns_like hown2 fun k hk => Below.heap_setCell w2 ⟨bf, 0, none⟩ v2 k (fun e => off bf lf o4 (by rw [hk, e]))
  · rw [← seenL_put F f h2 hf]
    exact hm.same ((Below.heap_setCell w2 ⟨bf, 0, none⟩ v2 bm (fun e => n9 e.symm)).trans (hg2.block bm (by omega) (fun e => o5 e.symm)))
  · exact (hg2.os.trans hg1.os).trans g.b.os
  · exact (hg2.tape.trans hg1.tape).trans g.b.tape
  · exact (hg2.output.trans hg1.output).trans g.b.output
  · have := g.b.size; omega
  · intro k hk
    have := g.b.size
    refine (s2 k (by omega) (by omega) (by omega) (fun e => ?_)).trans (g.b.block k hk)
    have := (hown.lt k e).1
    omega
theorem Try.infoI32 : (Try.prog.info? 21).map (fun i => (i.zero, i.size, i.bytes)) = some (some (.int .i32 0), 1, 4) := by kernel_rfl
theorem one_i32 (x : Int) : ∀ u ∈ [Value.int .i32 x], u.oneCell' = true := by
  intro u hu
  simp at hu
  subst hu
  rfl
set_option maxRecDepth 100000 in
set_option maxHeartbeats 8000000 in
theorem giveWalk_any {w : World} {B : Nat} {A : Blks} {V Mo : Nat} {N : List Nd} {H G : List Nat} (hA : ArAt w B A V Mo N H G) {bs ba bf bw bm : Nat} : ∀ (n f : Nat) (F : List Nat) (W : World), f < n → f < N.length → FOk N F → GSt w A bs ba bf bw bm F W →
    Calls Try.prog 82 #[.int .i32 f, .pointer (some ⟨bs, 0, none⟩), .pointer (some ⟨ba, 0, none⟩), .pointer (some ⟨bf, 0, none⟩), .pointer (some ⟨bw, 0, none⟩)] W
      fun e W' => e = .returned (.tuple #[]) ∧ GSt w A bs ba bf bw bm (dfs N H n f F) W' := by
  intro n
  induction n with
  | zero => intro f F W hf; omega
  | succ n ih =>
    intro f F W hfn hf hlen hg
    have HAW := Lib.hid hA
    have hle : N.length ≤ 2147483647 := by obtain ⟨_, h⟩ := hA; exact h.le
    have hkf := key_i32 (a := (f : Int)) (by omega)
    have hAW := hA.below (show Below w.heap.size w W from hg.b)
    have hl1 := hg.m.look i32_keyed Try.underlying97 (zero_bool W) false hkf
    rw [seenL_get] at hl1
    obtain ⟨nv, hN⟩ := hAW
    have hl2 := hN.held.look i32_keyed Try.underlying97 (zero_bool W) false hkf
    rw [heldL_get] at hl2
    have c1 := cell0 hg.s
    have c2 := cell0 hg.a
    have c4 := cell0 hg.k
    obtain ⟨fv, hfv, hown, ho1, ho2, ho3, ho4, ho5⟩ := hg.f
    have c3 := cell0 hfv
    have a6 : W.cell? ⟨A.a, 6, none⟩ = some (.map (some A.h)) := hN.cellAt rfl
    have HG := Lib.hid hg
    have HN := Lib.hid hN
    have HFV := Lib.hid (And.intro hfv (And.intro hown (And.intro ho1 (And.intro ho2 (And.intro ho3 (And.intro ho4 ho5))))))
    have L1 : (Instr.lookup 97 (.map (some bm)) (.int .i32 f) false).run Try.prog W = .ok ((if f < 2 ∨ f ∈ F then some (Value.bool true) else none).getD (.bool false)) W := hl1
    have L2 : (Instr.lookup 97 (.map (some A.h)) (.int .i32 f) false).run Try.prog W = .ok ((if f ∈ H then some (Value.bool true) else none).getD (.bool false)) W := hl2
    clear hl1 hl2 hg hN hfv hown ho1 ho2 ho3 ho4 ho5 hA
    by_cases hs : f < 2 ∨ f ∈ F
    · rw [if_pos hs] at L1
      have L1 : (Instr.lookup 97 (.map (some bm)) (.int .i32 f) false).run Try.prog W = .ok (.bool true) W := L1
      clear L2
      have HS := Lib.hid hs
      clear hs
      go_enter Try.func82, Try.ntmps82
      go_wp2
      (try simp only [Exit.inBlock, Exit.then])
      refine bodyPost_ret (results_none rfl _ _ _) rfl ?_
      refine ⟨rfl, ?_⟩
      have : dfs N H (n + 1) f F = F := by
        show (if f < 2 ∨ f ∈ F ∨ f ∈ H then F else _) = F
        rw [if_pos (by rcases HS.out with h | h; exact .inl h; exact .inr (.inl h))]
      rw [this]
      exact HG.out
    · rw [if_neg hs] at L1
      have L1 : (Instr.lookup 97 (.map (some bm)) (.int .i32 f) false).run Try.prog W = .ok (.bool false) W := L1
      by_cases hh : f ∈ H
      · rw [if_pos hh] at L2
        have L2 : (Instr.lookup 97 (.map (some A.h)) (.int .i32 f) false).run Try.prog W = .ok (.bool true) W := L2
        have HS := Lib.hid hh
        clear hs hh
        go_enter Try.func82, Try.ntmps82
        go_wp2
        (try simp only [Exit.inBlock, Exit.then])
        refine bodyPost_ret (results_none rfl _ _ _) rfl ?_
        refine ⟨rfl, ?_⟩
        have : dfs N H (n + 1) f F = F := by
          show (if f < 2 ∨ f ∈ F ∨ f ∈ H then F else _) = F
          rw [if_pos (.inr (.inr HS.out))]
        rw [this]
        exact HG.out
      · rw [if_neg hh] at L2
        have L2 : (Instr.lookup 97 (.map (some A.h)) (.int .i32 f) false).run Try.prog W = .ok (.bool false) W := L2
        have HS := Lib.hid hs
        have HH := Lib.hid hh
        clear hs hh
        go_enter Try.func82, Try.ntmps82
        have hf2 : 2 ≤ f := by have := HS.out; omega
        have hfF : f ∉ F := fun h => HS.out (.inr h)
        obtain ⟨Af, cf, rfl, _⟩ := owns_form HFV.out.2.1
        obtain ⟨i0, hif, hz0, hz1, hz2⟩ := info_parts Try.infoI32
        have hls := lt_of_block HG.out.s
        have hla := lt_of_block HG.out.a
        have hlf := lt_of_block HFV.out.1
        have HX := Lib.hid (And.intro hf2 hfF)
        clear hf2 hfF
        go_upto_region 2 with (refine wpList_mapAt rfl _ _ _ 97 4 rfl i32_keyed Try.underlying97 rfl (show MapAt _ _ W _ _ from HG.out.m) (.int .i32 f) (.bool true) _ rfl rfl hkf ?_; intro w1 hm1 hg1; have HM1 := Lib.hid hm1; have HG1 := Lib.hid hg1; clear hm1 hg1)
        have hz1' := HG1.out.size
        have c3' : w1.cell? ⟨bf, 0, none⟩ = some (.slice Af F.length cf) := by
          rw [cell_of_row w1 _ 0 _ _ (0, 0) ((HG1.out.block bf hlf (fun e => HG.out.ne.2.2.2.2.2.2.2.2.1 (by injection e))).trans HFV.out.1)]; rfl
        have hown1 : w1.ownsRow w.heap.size 21 1 (.slice Af F.length cf) F.length (F.map fun (i : Nat) => Value.int .i32 (i : Int)) := owns_like HFV.out.2.1 fun k hk => HG1.out.block k ((HFV.out.2.1.lt k hk).2) (fun e => HFV.out.2.2.2.2.2.2 (by rw [hk]; exact e))
        have HO1 := Lib.hid hown1
        have hbs := HG.out.b.size
        have hl5 := hlen.len
        have hl4 : F.length ≤ 1099511627776 := by omega
        clear hown1 L1 L2 c1 c2 c4 c3 a6
        go_upto_region 3 with (at_builtin; refine wpList_push2 (v := .slice Af F.length cf) rfl _ _ 106 rfl 21 i0 _ 1 4 Try.underlying106 hif hz0 hz1 hz2 rfl (by decide) (by decide) [.int .i32 f] rfl rfl rfl HO1.out rfl (one_i32 _) hl4 (by omega) ?_; intro v2 w2 hown2 hg2 hmv2; obtain ⟨hput, hc2⟩ := HG.out.put HFV.out.1 HFV.out.2.1 HFV.out.2.2 HM1.out HG1.out HX.out.1 HX.out.2 hown2 hg2 hmv2; obtain ⟨A2, cc2, hv2, _⟩ := owns_form hown2; subst hv2; have HPUT := Lib.hid hput; have hcell2 : w2.cell? ⟨bf, 0, none⟩ = some (.slice Af F.length cf) := cell0 hc2; have hfr2 := frozen_of_row w2 _ 0 _ _ hc2; clear hown2 hg2 hmv2 hput hc2)
        clear hcell2 hfr2
        generalize w2.setCell ⟨bf, 0, none⟩ (.slice A2 (F.length + 1) cc2) = W3 at *
        have hwf : WF N := by obtain ⟨_, h⟩ := HAW.out; exact h.wf
        have hclo := hwf.lo f HX.out.1 hf
        have hchi := hwf.hi f HX.out.1 hf
        have hok1 := hlen.snoc HX.out.1 hf HX.out.2
        have hok2 := dfs_ok hwf H n (nd N f).lo (F ++ [f]) (by omega) hok1
        have IHL := Lib.hid (fun (W4 : World) (hb : Below W3.heap.size W3 W4) => ih (nd N f).lo (F ++ [f]) W4 (by omega) (by omega) hok1 (HPUT.out.below hb))
        have IHH := Lib.hid (fun (W5 : World) (hg5 : GSt w A bs ba bf bw bm (dfs N H n (nd N f).lo (F ++ [f])) W5) (W6 : World) (hb : Below W5.heap.size W5 W6) => ih (nd N f).hi (dfs N H n (nd N f).lo (F ++ [f])) W6 (by omega) (by omega) hok2 (hg5.below hb))
        have HEQ : Hid (dfs N H (n + 1) f F = dfs N H n (nd N f).hi (dfs N H n (nd N f).lo (F ++ [f]))) := Lib.hid (by
          show (if f < 2 ∨ f ∈ F ∨ f ∈ H then F else _) = _
          rw [if_neg (by
            rintro (h | h | h)
            · exact HS.out (.inl h)
            · exact HS.out (.inr h)
            · exact HH.out h)])
        have hI : (f : Int) < (N.length : Int) := by omega
        have HWF := Lib.hid hwf
        have c1 := cell0 HPUT.out.a
        have c2 := cell0 HPUT.out.k
        obtain ⟨nv3, hA3⟩ := HAW.out.below HPUT.out.b
        obtain ⟨ng, cp, rfl, hat⟩ := hA3.at_node
        obtain ⟨_, x1, _⟩ := hat f hf
        have c3 : W3.cell? ⟨A.a, 2, none⟩ = some (.slice (some ⟨ng, 0, none⟩) N.length cp) := hA3.cellAt rfl
        clear hwf hclo hchi hok1 hok2 ih hlen hA3 hat hfn hl4 hl5 hbs hz1' c3' HO1 HM1 HG1 hls hla hlf HX HS HH HG HN HFV hkf
        have C1 := cell_regrown c1
        have C2 := cell_regrown c2
        have C3 := cell_regrown c3
        have X1 := cell_regrown x1
        refine wp_region_tail_below 9 (by kernel_rfl) (by kernel_rfl) ?_
        simp only [List.take_succ_cons, List.take_zero, List.drop_succ_cons, List.drop_zero]
        repeat (first | go_big_quiet_step (fail) | quiet_step (fail))
        refine wpQuiet_nil ?_
        intro W4 hw'
        obtain ⟨⟨nq, osq⟩, hw''⟩ := hw'
        subst hw''
        have HQ := Lib.hid (below_regrown W3 nq osq)
        clear C1 C2 C3 X1 c1 c2 c3 x1
        generalize grow (redrawn W3 nq) osq = W4 at *
        go_wp2_with fail
        refine (IHL.out W4 HQ.out).mono ?_
        rintro e W5 ⟨rfl, hg5⟩
        have HG5 := Lib.hid hg5
        clear hg5
        have c1 := cell0 HG5.out.a
        have c2 := cell0 HG5.out.k
        obtain ⟨nv5, hA5⟩ := HAW.out.below HG5.out.b
        obtain ⟨ng5, cp5, rfl, hat5⟩ := hA5.at_node
        obtain ⟨_, _, x1⟩ := hat5 f hf
        have c3 : W5.cell? ⟨A.a, 2, none⟩ = some (.slice (some ⟨ng5, 0, none⟩) N.length cp5) := hA5.cellAt rfl
        clear hA5 hat5
        go_upto_region 4 with fail
        have C1 := cell_regrown c1
        have C2 := cell_regrown c2
        have C3 := cell_regrown c3
        have X1 := cell_regrown x1
        refine wp_region_tail_below 9 (by kernel_rfl) (by kernel_rfl) ?_
        simp only [List.take_succ_cons, List.take_zero, List.drop_succ_cons, List.drop_zero]
        repeat (first | go_big_quiet_step (fail) | quiet_step (fail))
        refine wpQuiet_nil ?_
        intro W6 hw'
        obtain ⟨⟨nq2, osq2⟩, hw''⟩ := hw'
        subst hw''
        have HQ2 := Lib.hid (below_regrown W5 nq2 osq2)
        clear C1 C2 C3 X1 c1 c2 c3 x1
        generalize grow (redrawn W5 nq2) osq2 = W6 at *
        go_wp2_with fail
        refine (IHH.out W5 HG5.out W6 HQ2.out).mono ?_
        rintro e W7 ⟨rfl, hg7⟩
        have HG7 := Lib.hid hg7
        clear hg7
        go_wp2
        go_end0
        refine ⟨rfl, ?_⟩
        rw [HEQ.out]
        exact HG7.out
end Go.Proofs.Ytcchiagclhkieaa

/-
  The arena's give.
-/
namespace Go.Proofs.Ytcchiagclhkieaa
open Go Go.RowKit Go.ChangeMaps Go.MapKept Go.Maps Go.Lib Go.Sort

/-- A pair of a map's literal AT THE OPERATION. -/
theorem wpList_mapIns {P : Program} {k : TypeId} {w : World} {b : Nat} {l : List (Value × Value)} {ops : Array Oper} {rest : List Oper} {o : Oper} {a : Act} {Q : Exit → Act → World → Prop} (hg : o.guard = none) (m x v : Operand) (t e : TypeId)
    (hop : o.op = Op.insert t m x v) (K : Keyed P k) (ht : P.underlying t = some (.map k e)) (hm : a.eval m = .map (some b)) (h : MapAt P k w b l) (key val : Value) (kl : Lit) (hx : a.eval x = key) (hv : a.eval v = val) (hkey : keyOf P k key = some kl)
    (hK : ∀ w', MapAt P k w' b (putM l key val) → w.grownBy w' (some b) → wpList P ops Q rest (a.put o.dst undef) w') : wpList P ops Q (o :: rest) a w := by
  refine wpList_plain hg fun K' hK' => ?_
  obtain ⟨w', hrun, r1, r2⟩ := h.store K ht hkey val
  unfold Oper.wp
  simp [execOp, hop, hm, hx, hv, hrun, Result.andThen]
  exact hK' _ _ (hK w' r1 r2)
theorem run_store_fn {P : Program} (a : Addr) (m : Mode) (r : Fn) (ts cs : Array Value) (w : World) : (store a (.func r ts cs) m).run P w = stored P w a (.func r ts cs) m := run_store P w a _ m rfl
theorem heldL_put (H : List Nat) (g : Nat) (hg : g ∉ H) : putM (heldL H) (.int .i32 g) (.bool true) = heldL (H ++ [g]) := by
  unfold putM
  rw [if_neg (by
    rw [heldL_keys]
    intro h
    obtain ⟨x, hx, e⟩ := List.mem_map.1 h
    have : x = g := by simp at e; omega
    exact hg (this ▸ hx))]
  simp [heldL]
def addL (G : List Nat) (g : Nat) : List Nat := if g ∈ G then G else G ++ [g]
theorem givenL_put (G : List Nat) (g : Nat) : putM (givenL G) (.int .i64 g) (.bool true) = givenL (addL G g) := by
  have hk : (Value.int .i64 (g : Int)) ∈ (givenL G).map (·.1) ↔ g ∈ G := by
    unfold givenL
    rw [List.map_map]
    constructor
    · intro h
      obtain ⟨x, hx, e⟩ := List.mem_map.1 h
      have : x = g := by simp at e; omega
      exact this ▸ hx
    · intro h
      exact List.mem_map.2 ⟨g, h, rfl⟩
  unfold putM addL
  by_cases h : g ∈ G
  · rw [if_pos (hk.2 h), if_pos h]
    conv => rhs; rw [← List.map_id (givenL G)]
    refine List.map_congr_left fun p hp => ?_
    split
    · rename_i e
      unfold givenL at hp
      obtain ⟨x, _, rfl⟩ := List.mem_map.1 hp
      have : (Value.int .i64 (x : Int)) = .int .i64 (g : Int) := e
      show (Value.int .i64 (g : Int), Value.bool true) = (Value.int .i64 (x : Int), Value.bool true)
      rw [this]
    · rfl
  · rw [if_neg (fun hh => h (hk.1 hh)), if_neg h]
    simp [givenL]
/-- The held turned, and nothing else. -/
theorem ArNv.hold {w w' : World} {B : Nat} {A : Blks} {V Mo : Nat} {N : List Nd} {H H' G : List Nat} {nv : Value} (h : ArNv w B A V Mo N H G nv) (hm : MapAt Try.prog 21 w' A.h (heldL H')) (hg : w.grownBy w' (some A.h)) :
    ArNv w' B A V Mo N H' G nv ∧ Kept A w w' := by
  obtain ⟨n1, n2, n3, n4, n5, n6, n7, n8, n9, n10⟩ := Blks.ne h.nodup
  obtain ⟨lb, hlb, hbo⟩ := h.by_
  obtain ⟨li, hli, hio⟩ := h.ites
  have ha := lt_of_block h.cells
  have s : ∀ k, k < w.heap.size → k ≠ A.h → w'.heap[k]? = w.heap[k]? := fun k hk hki => hg.block k hk (fun e => hki (by injection e))
  refine ⟨⟨(s A.a ha n4).trans h.cells, owns_like h.row fun k hk => s k (h.row.lt k hk).2 fun e => h.off A.h (by simp [Blks.list]) (by rw [hk, e]), ⟨lb, hlb.same (s A.b hlb.lt n7), hbo⟩, ⟨li, hli.same (s A.i hli.lt n9), hio⟩,
    h.given.same (s A.g h.given.lt n10), hm, h.nodup, h.base, h.off, h.wf, h.le⟩, Kept.of_map (k := A.h) (by simp [Blks.list]) n4.symm ha hg⟩
/-- The given turned, and nothing else. -/
theorem ArNv.gift {w w' : World} {B : Nat} {A : Blks} {V Mo : Nat} {N : List Nd} {H G G' : List Nat} {nv : Value} (h : ArNv w B A V Mo N H G nv) (hm : MapAt Try.prog 3 w' A.g (givenL G')) (hg : w.grownBy w' (some A.g)) :
    ArNv w' B A V Mo N H G' nv ∧ Kept A w w' := by
  obtain ⟨n1, n2, n3, n4, n5, n6, n7, n8, n9, n10⟩ := Blks.ne h.nodup
  obtain ⟨lb, hlb, hbo⟩ := h.by_
  obtain ⟨li, hli, hio⟩ := h.ites
  have ha := lt_of_block h.cells
  have s : ∀ k, k < w.heap.size → k ≠ A.g → w'.heap[k]? = w.heap[k]? := fun k hk hki => hg.block k hk (fun e => hki (by injection e))
  refine ⟨⟨(s A.a ha n3).trans h.cells, owns_like h.row fun k hk => s k (h.row.lt k hk).2 fun e => h.off A.g (by simp [Blks.list]) (by rw [hk, e]), ⟨lb, hlb.same (s A.b hlb.lt n6), hbo⟩, ⟨li, hli.same (s A.i hli.lt n8), hio⟩,
    hm, h.held.same (s A.h h.held.lt n10.symm), h.nodup, h.base, h.off, h.wf, h.le⟩, Kept.of_map (k := A.g) (by simp [Blks.list]) n3.symm ha hg⟩
theorem dfs_off {N : List Nd} (H : List Nat) : ∀ (n f : Nat) (F : List Nat), (∀ i ∈ F, i ∉ H) → ∀ i ∈ dfs N H n f F, i ∉ H
  | 0, _, _, h => h
  | n + 1, f, F, h => by
    unfold dfs
    by_cases hc : f < 2 ∨ f ∈ F ∨ f ∈ H
    · rw [if_pos hc]; exact h
    · rw [if_neg hc]
      refine dfs_off H n _ _ (dfs_off H n _ _ fun i hi => ?_)
      rcases List.mem_append.1 hi with hi | hi
      · exact h i hi
      · simp at hi
        subst hi
        exact fun e => hc (.inr (.inr e))
/-- Where give's walk begins. -/
theorem GSt.start {w w1 w2 : World} {A : Blks} (hg1 : (((w.alloc (.cells #[.pointer (some ⟨A.a, 0, none⟩)] 64)).alloc (.cells #[.slice none 0 0] 106)).alloc (.map #[] 0)).grownBy w1 (some (w.heap.size + 1 + 1)))
    (hm2 : MapAt Try.prog 21 w2 (w.heap.size + 1 + 1) (putM (putM [] (.int .i32 0) (.bool true)) (.int .i32 1) (.bool true))) (hg2 : w1.grownBy w2 (some (w.heap.size + 1 + 1))) :
    ((w2.alloc (.cells #[.map (some (w.heap.size + 1 + 1))] 97)).alloc (.cells #[.nilFunc] 122)).heap[w2.heap.size + 1]? = some (.cells #[.nilFunc] 122 (0, 0)) ∧
      GSt w A w2.heap.size w.heap.size (w.heap.size + 1) (w2.heap.size + 1) (w.heap.size + 1 + 1) [] (((w2.alloc (.cells #[.map (some (w.heap.size + 1 + 1))] 97)).alloc (.cells #[.nilFunc] 122)).setCell ⟨w2.heap.size + 1, 0, none⟩
        (.func (.func 82) #[] #[.pointer (some ⟨w2.heap.size, 0, none⟩), .pointer (some ⟨w.heap.size, 0, none⟩), .pointer (some ⟨w.heap.size + 1, 0, none⟩), .pointer (some ⟨w2.heap.size + 1, 0, none⟩)])) := by
  have hput : putM (putM [] (.int .i32 0) (.bool true)) (.int .i32 1) (.bool true) = seenL [] := by
    unfold putM
    simp [seenL, heldL]
  rw [hput] at hm2
  have ha := blk1 w (.cells #[.pointer (some ⟨A.a, 0, none⟩)] 64)
  have hf := blk1 (w.alloc (.cells #[.pointer (some ⟨A.a, 0, none⟩)] 64)) (.cells #[.slice none 0 0] 106)
  have s1 : (w.alloc (.cells #[.pointer (some ⟨A.a, 0, none⟩)] 64)).heap.size = w.heap.size + 1 := by simp
  have s2 : ((w.alloc (.cells #[.pointer (some ⟨A.a, 0, none⟩)] 64)).alloc (.cells #[.slice none 0 0] 106)).heap.size = w.heap.size + 1 + 1 := by simp
  have s3 : (((w.alloc (.cells #[.pointer (some ⟨A.a, 0, none⟩)] 64)).alloc (.cells #[.slice none 0 0] 106)).alloc (.map #[] 0)).heap.size = w.heap.size + 1 + 1 + 1 := by simp
  rw [s1] at hf
  have z1 := hg1.size
  have z2 := hg2.size
  rw [s3] at z1
  have b1 := below1 (w.alloc (.cells #[.pointer (some ⟨A.a, 0, none⟩)] 64)) (.cells #[.slice none 0 0] 106)
  have b2 := below1 ((w.alloc (.cells #[.pointer (some ⟨A.a, 0, none⟩)] 64)).alloc (.cells #[.slice none 0 0] 106)) (.map #[] 0)
  have ha2 := blk_below b2 (blk_below b1 ha)
  have hf2 := blk_below b2 hf
  have e12 : ∀ k, k < w.heap.size + 1 + 1 → w2.heap[k]? = (((w.alloc (.cells #[.pointer (some ⟨A.a, 0, none⟩)] 64)).alloc (.cells #[.slice none 0 0] 106)).alloc (.map #[] 0)).heap[k]? := fun k hk =>
    (hg2.block k (by omega) (fun e => by injection e; omega)).trans (hg1.block k (by rw [s3]; omega) (fun e => by injection e; omega))
  have hb0 := (below2 w (.cells #[.pointer (some ⟨A.a, 0, none⟩)] 64) (.cells #[.slice none 0 0] 106)).alloc (by rw [s2]; omega) (.map #[] 0)
  generalize (((w.alloc (.cells #[.pointer (some ⟨A.a, 0, none⟩)] 64)).alloc (.cells #[.slice none 0 0] 106)).alloc (.map #[] 0)) = W0 at *
  have hs2 := blk1 w2 (.cells #[.map (some (w.heap.size + 1 + 1))] 97)
  have hw2 := blk1 (w2.alloc (.cells #[.map (some (w.heap.size + 1 + 1))] 97)) (.cells #[.nilFunc] 122)
  have s5 : (w2.alloc (.cells #[.map (some (w.heap.size + 1 + 1))] 97)).heap.size = w2.heap.size + 1 := by simp
  rw [s5] at hw2
  have b4 := below2 w2 (.cells #[.map (some (w.heap.size + 1 + 1))] 97) (.cells #[.nilFunc] 122)
  have hs3 := blk_below (below1 (w2.alloc (.cells #[.map (some (w.heap.size + 1 + 1))] 97)) (.cells #[.nilFunc] 122)) hs2
  have ha4 := blk_below b4 ((e12 w.heap.size (by omega)).trans ha2)
  have hf4 := blk_below b4 ((e12 (w.heap.size + 1) (by omega)).trans hf2)
  have hm4 := hm2.same (b4.block _ hm2.lt)
  have hb4 : Below w.heap.size w ((w2.alloc (.cells #[.map (some (w.heap.size + 1 + 1))] 97)).alloc (.cells #[.nilFunc] 122)) :=
    ⟨b4.os.trans (hg2.os.trans (hg1.os.trans hb0.os)), b4.tape.trans (hg2.tape.trans (hg1.tape.trans hb0.tape)), b4.output.trans (hg2.output.trans (hg1.output.trans hb0.output)), by have := b4.size; omega,
      fun k hk => (b4.block k (by omega)).trans ((e12 k (by omega)).trans (hb0.block k hk))⟩
  generalize (w2.alloc (.cells #[.map (some (w.heap.size + 1 + 1))] 97)).alloc (.cells #[.nilFunc] 122) = W4 at *
  have st : ∀ k, k ≠ w2.heap.size + 1 → (W4.setCell ⟨w2.heap.size + 1, 0, none⟩ (.func (.func 82) #[] #[.pointer (some ⟨w2.heap.size, 0, none⟩), .pointer (some ⟨w.heap.size, 0, none⟩), .pointer (some ⟨w.heap.size + 1, 0, none⟩), .pointer (some ⟨w2.heap.size + 1, 0, none⟩)])).heap[k]? = W4.heap[k]? := fun k hk => Below.heap_setCell W4 ⟨w2.heap.size + 1, 0, none⟩ _ k hk
  have hsz : (W4.setCell ⟨w2.heap.size + 1, 0, none⟩ (.func (.func 82) #[] #[.pointer (some ⟨w2.heap.size, 0, none⟩), .pointer (some ⟨w.heap.size, 0, none⟩), .pointer (some ⟨w.heap.size + 1, 0, none⟩), .pointer (some ⟨w2.heap.size + 1, 0, none⟩)])).heap.size = W4.heap.size := by simp [World.setCell]
  have z4 := b4.size
  have lm := hm2.lt
  have hns : w2.heap.size ≠ w.heap.size + 1 + 1 := by omega
  refine ⟨hw2, (st _ (by omega)).trans hs3, (st _ (by omega)).trans ha4, set_at hw2, ⟨.slice none 0 0, (st _ (by omega)).trans hf4, World.ownsRow_nil _ _ _ _, by simp [Value.ownBlock], by simp [Value.ownBlock], by simp [Value.ownBlock], by simp [Value.ownBlock], by simp [Value.ownBlock]⟩, hm4.same (st _ (by omega)), by omega, by omega, ⟨hb4.os, hb4.tape, hb4.output, by have := hb4.size; omega, fun k hk => (st k (by omega)).trans (hb4.block k hk)⟩⟩
def newL (N : List Nd) (H : List Nat) (f : Nat) : List Nat := dfs N H (f + 1) f []
theorem newL_ok {N : List Nd} (w : WF N) (H : List Nat) {f : Nat} (hf : f < N.length) : FOk N (newL N H f) := dfs_ok w H _ _ _ hf ⟨List.nodup_nil, by simp⟩
theorem newL_off (N : List Nd) (H : List Nat) (f : Nat) : ∀ i ∈ newL N H f, i ∉ H := dfs_off H _ _ _ (by simp)
/-- What give comes to. -/
def GiveRes (w : World) (B : Nat) (A : Blks) (V Mo : Nat) (N : List Nd) (H G : List Nat) (f : Nat) (e : Ending) (w' : World) : Prop :=
  (Mo < H.length + (newL N H f).length ∧ e = .returned (.tuple #[.int .i64 0, .int .i64 3]) ∧ ArAt w' B A V Mo N H G ∧ Kept A w w') ∨
  (H.length + (newL N H f).length ≤ Mo ∧ e = .returned (.tuple #[.int .i64 f, .int .i64 0]) ∧ ArAt w' B A V Mo N (H ++ newL N H f) (addL G f) ∧ Kept A w w')
set_option maxRecDepth 100000 in
set_option maxHeartbeats 8000000 in
theorem give_any {w : World} {B : Nat} {A : Blks} {V Mo : Nat} {N : List Nd} {H G : List Nat} (f : Nat) (hA : ArAt w B A V Mo N H G) (hf : f < N.length) (hH : FOk N H) :
    Calls Try.prog 48 #[A.val, .int .i32 f] w (GiveRes w B A V Mo N H G f) := by
  have hk0 := key_i32 (a := 0) (by omega)
  have hk1 := key_i32 (a := 1) (by omega)
  have hmm := @run_makeMap Try.prog
  have HA := Lib.hid hA
  have HH := Lib.hid hH
  clear hA hH
  unfold Blks.val
  go_enter Try.func48, Try.ntmps48
  have hM : MapAt Try.prog 21 (((w.alloc (.cells #[.pointer (some ⟨A.a, 0, none⟩)] 64)).alloc (.cells #[.slice none 0 0] 106)).alloc (.map #[] 0)) (w.heap.size + 1 + 1) [] := by
    have := MapAt.made Try.prog 21 ((w.alloc (.cells #[.pointer (some ⟨A.a, 0, none⟩)] 64)).alloc (.cells #[.slice none 0 0] 106))
    simpa using this
  go_upto_region 4 with (first
    | (refine wpList_mapIns rfl _ _ _ 97 4 rfl i32_keyed Try.underlying97 rfl hM (.int .i32 0) (.bool true) _ rfl rfl hk0 ?_; intro w1 hm1 hg1)
    | (refine wpList_mapIns rfl _ _ _ 97 4 rfl i32_keyed Try.underlying97 rfl hm1 (.int .i32 1) (.bool true) _ rfl rfl hk1 ?_; intro w2 hm2 hg2))
  obtain ⟨hbw, hst⟩ := GSt.start hg1 hm2 hg2
  have hcw := cell0 hbw
  have hfw := frozen_of_row _ _ 0 _ _ hbw
  have HST := Lib.hid hst
  clear hst hbw hm1 hg1 hm2 hg2 hM hk0 hk1 hmm
  have hrs := @run_store_fn Try.prog
  generalize (w2.alloc (.cells #[.map (some (w.heap.size + 1 + 1))] 97)).alloc (.cells #[.nilFunc] 122) = W4 at *
  generalize w2.heap.size + 1 = bw at *
  generalize w2.heap.size = bs at *
  go_upto_region 5 with fail
  generalize W4.setCell ⟨bw, 0, none⟩ (.func (.func 82) #[] #[.pointer (some ⟨bs, 0, none⟩), .pointer (some ⟨w.heap.size, 0, none⟩), .pointer (some ⟨w.heap.size + 1, 0, none⟩), .pointer (some ⟨bw, 0, none⟩)]) = W5 at *
  have c5 := cell0 HST.out.k
  clear hcw hfw hrs
  go_wp2_with (refine (giveWalk_any HA.out (f + 1) f [] W5 (by omega) hf ⟨List.nodup_nil, by simp⟩ HST.out).mono ?_; rintro e W6 ⟨rfl, hg6⟩; change GSt w A bs w.heap.size (w.heap.size + 1) bw (w.heap.size + 1 + 1) (newL N H f) W6 at hg6; have HG6 := Lib.hid hg6; clear hg6 HST c5)
  have hle : N.length ≤ 2147483647 := by obtain ⟨_, h⟩ := HA.out; exact h.le
  have hwf : WF N := by obtain ⟨_, h⟩ := HA.out; exact h.wf
  have hFk := newL_ok hwf H hf
  have hHl : H.length ≤ 2147483647 := by have := HH.out.len; omega
  have hFl : (newL N H f).length ≤ 2147483647 := by have := hFk.len; omega
  have HFK := Lib.hid hFk
  have HOFF := Lib.hid (newL_off N H f)
  have hfb : (f : Int) ≤ 2147483646 := by omega
  clear hFk hwf hle
  generalize hF : newL N H f = F at *
  have HFE := Lib.hid hF
  clear hF
  obtain ⟨fv, hfv, hown, _⟩ := HG6.out.f
  obtain ⟨Af, cf, rfl, hAf⟩ := owns_form hown
  obtain ⟨nv6, hA6⟩ := HA.out.below HG6.out.b
  have c0 := cell0 HG6.out.a
  have c1 := cell0 hfv
  have a1 : W6.cell? ⟨A.a, 1, none⟩ = some (.int .i64 Mo) := hA6.cellAt rfl
  have a6 : W6.cell? ⟨A.a, 6, none⟩ = some (.map (some A.h)) := hA6.cellAt rfl
  have hlen : ∀ d os, (Builtin.len_ #[97] 3 #[.map (some A.h)]).run Try.prog (grow (redrawn W6 d) os) = .ok (.int .i64 H.length) (grow (redrawn W6 d) os) := fun d os => by
    have := (hA6.held.same ((below_regrown W6 d os).block _ hA6.held.lt)).len Try.underlying97 3
    rw [show (heldL H).length = H.length from by simp [heldL]] at this
    exact this
  have HA6 := Lib.hid hA6
  have HFV := Lib.hid hfv
  have HOW := Lib.hid hown
  clear hA6 hfv hown
  have C0 := cell_regrown c0
  have C1 := cell_regrown c1
  have A1 := cell_regrown a1
  have A6 := cell_regrown a6
  refine wp_region_quiet_below (by kernel_rfl) (by kernel_rfl) ?_
  repeat (first | go_big_quiet_step (fail) | quiet_step (fail))
  refine wpQuiet_nil ?_
  intro _ hw'
  obtain ⟨⟨nq, osq⟩, hw''⟩ := hw'
  subst hw''
  have hq := below_regrown W6 nq osq
  have HG7 := Lib.hid (HG6.out.below hq)
  have HA7 := Lib.hid (HA6.out.below hq)
  have HFV7 := Lib.hid (blk_below hq HFV.out)
  have HOW7 := Lib.hid (owns_kept_none HOW.out (only_of_below hq none))
  clear C0 C1 A1 A6 c0 c1 a1 a6 hlen HG6 HA6 HFV HOW hq
  generalize grow (redrawn W6 nq) osq = W7 at *
  have HK7 := Lib.hid (Kept.of_below (A := A) HA.out.a_lt HG7.out.b)
  have HB7 : Hid (BoxAt A W7 w.heap.size (.pointer (some ⟨A.a, 0, none⟩)) 64) := Lib.hid ⟨HG7.out.a, HA.out.foreign_new HG7.out.b (Nat.le_refl _) (lt_of_block HG7.out.a)⟩
  have c1 := cell0 HFV7.out
  by_cases hM : Mo < H.length + F.length
  · have hI : (Mo : Int) < (H.length : Int) + (F.length : Int) := by omega
    have HM := Lib.hid hM
    clear hM
    go_wp2
    go_ret2
    exact .inl ⟨by rw [HFE.out]; exact HM.out, rfl, ⟨_, HA7.out⟩, HK7.out⟩
  · have hI : ¬ (Mo : Int) < (H.length : Int) + (F.length : Int) := by omega
    have HM := Lib.hid hM
    clear hM
    have HFO : Hid (∀ g, Af = some ⟨g, 0, none⟩ → Foreign A W7 g) := Lib.hid fun g hg => HA.out.foreign_new HG7.out.b (HOW7.out.lt g (by rw [hg]; rfl)).1 (HOW7.out.lt g (by rw [hg]; rfl)).2
    have HAf := Lib.hid hAf
    clear hAf
    go_wp2
    go_loopw [32] (fun i wr => ∃ k : Nat, i = .int .i64 k ∧ k ≤ F.length ∧ Hid (ArNv wr B A V Mo N (H ++ F.take k) G nv6) ∧ Hid (Kept A W7 wr)) (fun i _ => F.length - (intOf i).toNat)
    case atStart => exact ⟨0, rfl, by omega, Lib.hid (by rw [List.take_zero, List.append_nil]; exact HA7.out), Lib.hid (Kept.refl _ _)⟩
    case round =>
      obtain ⟨k, rfl, hk, HAR, HKR⟩ := hrel
      have c0 := (HB7.out.kept HKR.out).cell
      by_cases hlt : k < F.length
      · have hI2 : (k : Int) < (F.length : Int) := by omega
        obtain ⟨g, rfl⟩ := HAf.out (by omega)
        obtain ⟨x, hx⟩ : ∃ x, F[k]? = some x := ⟨_, List.getElem?_eq_getElem hlt⟩
        have hxN := (HFK.out.2 x (List.mem_of_getElem? hx))
        have hxo := HOFF.out x (List.mem_of_getElem? hx)
        have hcx : wr.cell? ⟨g, k, none⟩ = some (.int .i32 x) := by
          rw [World.cell?_of_block (w := W7) ((HKR.out.same g (HFO.out g rfl)).1)]
          exact (HOW7.out.cellAt k (by omega)).trans (by rw [List.getElem?_map, hx]; rfl)
        have a6 : wr.cell? ⟨A.a, 6, none⟩ = some (.map (some A.h)) := HAR.out.cellAt rfl
        have hkx := key_i32 (a := (x : Int)) (by have := HAR.out.le; omega)
        have htk : F.take (k + 1) = F.take k ++ [x] := by rw [List.take_add_one, hx]; rfl
        have hxt : x ∉ F.take k := fun h => by
          obtain ⟨j, hj⟩ := List.getElem?_of_mem h
          rw [List.getElem?_take] at hj
          split at hj
          · rename_i hjk
            have := HFK.out.1
            obtain ⟨l1, e1⟩ := List.getElem?_eq_some_iff.1 hj
            obtain ⟨l2, e2⟩ := List.getElem?_eq_some_iff.1 hx
            have := (List.getElem_inj this).1 (e1.trans e2.symm)
            omega
          · cases hj
        have HPUT : Hid (putM (heldL (H ++ F.take k)) (.int .i32 x) (.bool true) = heldL (H ++ F.take (k + 1))) := Lib.hid (by
          rw [heldL_put _ _ (fun h => by rcases List.mem_append.1 h with h | h; exact hxo h; exact hxt h), htk, List.append_assoc])
        clear hx hxN hxo htk hxt
        go_wp2_with (refine wpList_mapAt rfl _ _ _ 97 4 rfl i32_keyed Try.underlying97 rfl (show MapAt _ _ wr _ _ from HAR.out.held) (.int .i32 x) (.bool true) _ rfl rfl hkx ?_; intro w8 hm8 hg8; rw [HPUT.out] at hm8; obtain ⟨p1, p2⟩ := HAR.out.hold hm8 hg8; have P1 := Lib.hid p1; have P2 := Lib.hid p2; clear p1 p2 hm8 hg8)
        exact ⟨⟨k + 1, by go_num, by omega, P1, Lib.hid (HKR.out.trans P2.out)⟩, by simp only [intOf]; omega⟩
      · obtain rfl : k = F.length := by omega
        have hI2 : ¬ (F.length : Int) < (F.length : Int) := by omega
        have har := HAR.out
        rw [List.take_length] at har
        have HARF := Lib.hid har
        have a5 : wr.cell? ⟨A.a, 5, none⟩ = some (.map (some A.g)) := har.cellAt rfl
        have hkg := key_i64 (a := (f : Int)) (by omega)
        clear har HAR
        go_wp2_with (refine wpList_mapAt rfl _ _ _ 96 4 rfl i64_keyed Try.underlying96 rfl (show MapAt _ _ wr _ _ from HARF.out.given) (.int .i64 f) (.bool true) _ rfl rfl hkg ?_; intro w8 hm8 hg8; rw [givenL_put] at hm8; obtain ⟨p1, p2⟩ := HARF.out.gift hm8 hg8; have P1 := Lib.hid p1; have P2 := Lib.hid p2; clear p1 p2 hm8 hg8)
        go_ret2
        exact .inr ⟨by rw [HFE.out]; have := HM.out; omega, rfl, by rw [HFE.out]; exact ⟨_, P1.out⟩, HK7.out.trans (HKR.out.trans P2.out)⟩
end Go.Proofs.Ytcchiagclhkieaa

/-
  The arena's check, Var, Ite and what is made of it.
-/
namespace Go.Proofs.Ytcchiagclhkieaa
open Go Go.RowKit Go.ChangeMaps Go.MapKept Go.Maps Go.Lib Go.Sort

theorem givenL_get (G : List Nat) (f : Nat) : getM (givenL G) (.int .i64 f) = if f ∈ G then some (.bool true) else none := by
  induction G with
  | nil => rfl
  | cons a r ih =>
    show getM ((Value.int .i64 (a : Int), Value.bool true) :: givenL r) _ = _
    unfold getM at ih ⊢
    by_cases h : a = f
    · subst h
      rw [List.find?_cons_of_pos (by simp), if_pos (List.mem_cons_self ..)]
      rfl
    · rw [List.find?_cons_of_neg (by simp; omega), ih]
      by_cases hm : f ∈ r
      · rw [if_pos hm, if_pos (List.mem_cons_of_mem _ hm)]
      · rw [if_neg hm, if_neg (fun h' => by rcases List.mem_cons.1 h' with e | e; exact h e.symm; exact hm e)]
set_option maxRecDepth 100000 in
set_option maxHeartbeats 4000000 in
/-- Nodes that were given are nodes. -/
theorem check_any {w : World} {B : Nat} {A : Blks} {V Mo : Nat} {N : List Nd} {H G : List Nat} (hA : ArAt w B A V Mo N H G) (l : List Nat) (g c : Nat) (hv : ∀ (i x : Nat), l[i]? = some x → w.cell? ⟨g, i, none⟩ = some (.int .i64 x))
    (hG : ∀ x ∈ l, x ∈ G ∧ x ≤ 2147483647) (hl : l.length ≤ 1000) :
    Calls Try.prog 46 #[A.val, .slice (some ⟨g, 0, none⟩) l.length c] w fun e w' => e = .returned (.int .i64 0) ∧ Below w.heap.size w w' := by
  obtain ⟨nv, hN⟩ := hA
  have a5 : w.cell? ⟨A.a, 5, none⟩ = some (.map (some A.g)) := hN.cellAt rfl
  have HL := Lib.hid (fun (x : Nat) (hx : x ∈ l) => (show (Instr.lookup 96 (.map (some A.g)) (.int .i64 x) false).run Try.prog w = .ok (.bool true) w from by
    have h1 := hN.given.look i64_keyed Try.underlying96 (zero_bool w) false (key_i64 (a := (x : Int)) (by have := (hG x hx).2; omega))
    rw [givenL_get, if_pos (hG x hx).1] at h1
    exact h1))
  have HV := Lib.hid hv
  clear hN hv hG
  unfold Blks.val
  go_enter Try.func46, Try.ntmps46
  go_wp2
  go_loop [11] (fun i => ∃ k : Nat, i = .int .i64 k ∧ k ≤ l.length) (fun i => l.length - (intOf i).toNat)
  case atStart => exact ⟨0, rfl, by omega⟩
  case round =>
    obtain ⟨k, rfl, hk⟩ := hrel
    by_cases hlt : k < l.length
    · have hI : (k : Int) < (l.length : Int) := by omega
      obtain ⟨x, hx⟩ : ∃ x, l[k]? = some x := ⟨_, List.getElem?_eq_getElem hlt⟩
      have hc := HV.out k x hx
      have hlook := HL.out x (List.mem_of_getElem? hx)
      clear hx
      go_wp2
      exact ⟨⟨k + 1, by go_num, by omega⟩, by simp only [intOf]; omega⟩
    · obtain rfl : k = l.length := by omega
      have hI : ¬ (l.length : Int) < (l.length : Int) := by omega
      go_wp2
      go_ret
      exact ⟨rfl, Below.refl _ _⟩
/-- What an operation comes to: a node, then give. -/
def OpRes (w : World) (B : Nat) (A : Blks) (V Mo : Nat) (H G : List Nat) (T : Nat → List Nd → Prop) (e : Ending) (w' : World) : Prop :=
  ∃ (r : Nat) (N' : List Nd) (w1 : World), T r N' ∧ WF N' ∧ r < N'.length ∧ Kept A w w1 ∧ GiveRes w1 B A V Mo N' H G r e w'
theorem GiveRes.form {w : World} {B : Nat} {A : Blks} {V Mo : Nat} {N : List Nd} {H G : List Nat} {f : Nat} {e : Ending} {w' : World} (h : GiveRes w B A V Mo N H G f e w') : ∃ q c : Int, e = .returned (.tuple #[.int .i64 q, .int .i64 c]) := by
  rcases h with ⟨_, rfl, _⟩ | ⟨_, rfl, _⟩
  · exact ⟨_, _, rfl⟩
  · exact ⟨_, _, rfl⟩
theorem ext_ok {N N' : List Nd} (e : Ext N N') {F : List Nat} (h : FOk N F) : FOk N' F := ⟨h.1, fun i hi => ⟨(h.2 i hi).1, Nat.lt_of_lt_of_le (h.2 i hi).2 e.len⟩⟩
theorem new_cells (w : World) (l : List Nat) (t : TypeId) : ∀ (i x : Nat), l[i]? = some x → (w.alloc (.cells (l.map fun (n : Nat) => Value.int .i64 (n : Int)).toArray t)).cell? ⟨w.heap.size, i, none⟩ = some (.int .i64 x) := by
  intro i x hx
  have hb := blk1 w (.cells (l.map fun (n : Nat) => Value.int .i64 (n : Int)).toArray t)
  rw [cell_of_row _ _ i _ _ (0, 0) hb]
  simp [hx]
set_option maxRecDepth 100000 in
set_option maxHeartbeats 8000000 in
theorem Ite_any {w : World} {B : Nat} {A : Blks} {V Mo : Nat} {N : List Nd} {H G : List Nat} (f g h : Nat) (hA : ArAt w B A V Mo N H G) (hf : f ∈ G ∧ f < N.length) (hg : g ∈ G ∧ g < N.length) (hh : h ∈ G ∧ h < N.length) (hH : FOk N H) (hc : Cap N f g h) :
    Calls Try.prog 40 #[A.val, .int .i64 f, .int .i64 g, .int .i64 h] w (OpRes w B A V Mo H G (IteTo N f g h)) := by
  have hle : N.length ≤ 2147483647 := by obtain ⟨_, h⟩ := hA; exact h.le
  have hA1 := hA.below (below1 w (.cells ([f, g, h].map fun (n : Nat) => Value.int .i64 (n : Int)).toArray 3))
  have hk1 := Kept.of_below (A := A) hA.a_lt (below1 w (.cells ([f, g, h].map fun (n : Nat) => Value.int .i64 (n : Int)).toArray 3))
  have hck := check_any hA1 [f, g, h] w.heap.size 3 (new_cells w [f, g, h] 3) (by
    intro x hx
    simp at hx
    rcases hx with rfl | rfl | rfl
    · exact ⟨hf.1, by omega⟩
    · exact ⟨hg.1, by omega⟩
    · exact ⟨hh.1, by omega⟩) (by simp)
  have HA1 := Lib.hid hA1
  have HK1 := Lib.hid hk1
  have HCK := Lib.hid hck
  have HC := Lib.hid hc
  have HH := Lib.hid hH
  have f1 := hf.2
  have g1 := hg.2
  have h1 := hh.2
  have f2 : (f : Int) ≤ 2147483646 := by omega
  have g2 : (g : Int) ≤ 2147483646 := by omega
  have h2 : (h : Int) ≤ 2147483646 := by omega
  clear hA hA1 hk1 hck hc hH hf hg hh
  unfold Blks.val at *
  go_enter Try.func40, Try.ntmps40
  go_wp2_with (first
    | (refine HCK.out.mono ?_; rintro e W2 ⟨rfl, hb2⟩; have HA2 := Lib.hid (HA1.out.below hb2); have HK2 := Lib.hid (HK1.out.trans (Kept.of_below (A := A) HA1.out.a_lt hb2)); have HIT := Lib.hid (ite_any _ W2 B A V Mo N H G f g h (Nat.le_refl _) HA2.out f1 g1 h1 HC.out); unfold Blks.val at HIT; clear hb2)
    | ((with_reducible refine HIT.out.mono ?_); rintro e W3 ⟨r, N3, rfl, hto, hA3, hk3⟩; have HTO := Lib.hid hto; have HK3 := Lib.hid (HK2.out.trans hk3); have HGI := Lib.hid (give_any r hA3 hto.lt (ext_ok hto.ext HH.out)); unfold Blks.val at HGI; clear hto hA3 hk3)
    | ((with_reducible refine HGI.out.mono ?_); rintro e W4 hgv; have HGV := Lib.hid hgv; obtain ⟨q, ec, rfl⟩ := hgv.form; clear hgv))
  go_ret2
  exact ⟨r, N3, W3, HTO.out, HTO.out.wf, HTO.out.lt, HK3.out, HGV.out⟩
end Go.Proofs.Ytcchiagclhkieaa

/-
  The arena's Not, And, Or, Xor, Var.
-/
namespace Go.Proofs.Ytcchiagclhkieaa
open Go Go.RowKit Go.ChangeMaps Go.MapKept Go.Maps Go.Lib Go.Sort

theorem OpRes.form {w : World} {B : Nat} {A : Blks} {V Mo : Nat} {H G : List Nat} {T : Nat → List Nd → Prop} {e : Ending} {w' : World} (h : OpRes w B A V Mo H G T e w') : ∃ q c : Int, e = .returned (.tuple #[.int .i64 q, .int .i64 c]) := by
  obtain ⟨_, _, _, _, _, _, _, h⟩ := h
  exact h.form
section
variable {w : World} {B : Nat} {A : Blks} {V Mo : Nat} {N : List Nd} {H G : List Nat}
set_option maxRecDepth 100000
set_option maxHeartbeats 4000000
theorem Not_any (f : Nat) (hA : ArAt w B A V Mo N H G) (hf : f ∈ G ∧ f < N.length) (h0 : 0 ∈ G) (h1 : 1 ∈ G) (hH : FOk N H) (hc : Cap N f 0 1) :
    Calls Try.prog 25 #[A.val, .int .i64 f] w (OpRes w B A V Mo H G (IteTo N f 0 1)) := by
  have h2 : 2 ≤ N.length := by obtain ⟨_, h⟩ := hA; exact h.wf.two
  have hI := Ite_any f 0 1 hA hf ⟨h0, by omega⟩ ⟨h1, by omega⟩ hH hc
  unfold Blks.val at *
  have HI := Lib.hid hI
  clear hI hA
  go_enter Try.func25, Try.ntmps25
  go_wp2_with (refine HI.out.mono ?_; rintro e W2 ho; have HO := Lib.hid ho; obtain ⟨q, c, rfl⟩ := ho.form; clear ho)
  go_ret2
  exact HO.out
theorem And_any (f g : Nat) (hA : ArAt w B A V Mo N H G) (hf : f ∈ G ∧ f < N.length) (hg : g ∈ G ∧ g < N.length) (h0 : 0 ∈ G) (hH : FOk N H) (hc : Cap N f g 0) :
    Calls Try.prog 18 #[A.val, .int .i64 f, .int .i64 g] w (OpRes w B A V Mo H G (IteTo N f g 0)) := by
  have h2 : 2 ≤ N.length := by obtain ⟨_, h⟩ := hA; exact h.wf.two
  have hI := Ite_any f g 0 hA hf hg ⟨h0, by omega⟩ hH hc
  unfold Blks.val at *
  have HI := Lib.hid hI
  clear hI hA
  go_enter Try.func18, Try.ntmps18
  go_wp2_with (refine HI.out.mono ?_; rintro e W2 ho; have HO := Lib.hid ho; obtain ⟨q, c, rfl⟩ := ho.form; clear ho)
  go_ret2
  exact HO.out
theorem Or_any (f g : Nat) (hA : ArAt w B A V Mo N H G) (hf : f ∈ G ∧ f < N.length) (hg : g ∈ G ∧ g < N.length) (h1 : 1 ∈ G) (hH : FOk N H) (hc : Cap N f 1 g) :
    Calls Try.prog 59 #[A.val, .int .i64 f, .int .i64 g] w (OpRes w B A V Mo H G (IteTo N f 1 g)) := by
  have h2 : 2 ≤ N.length := by obtain ⟨_, h⟩ := hA; exact h.wf.two
  have hI := Ite_any f 1 g hA hf ⟨h1, by omega⟩ hg hH hc
  unfold Blks.val at *
  have HI := Lib.hid hI
  clear hI hA
  go_enter Try.func59, Try.ntmps59
  go_wp2_with (refine HI.out.mono ?_; rintro e W2 ho; have HO := Lib.hid ho; obtain ⟨q, c, rfl⟩ := ho.form; clear ho)
  go_ret2
  exact HO.out
theorem Var_any (i : Nat) (hA : ArAt w B A V Mo N H G) (hi : i < V) (hV : V ≤ 256) (hH : FOk N H) (hcap : ∀ r N', MkTo N i 0 1 r N' → N'.length ≤ 2147483647) :
    Calls Try.prog 39 #[A.val, .int .i64 i] w (OpRes w B A V Mo H G (MkTo N i 0 1)) := by
  have hwf : WF N := by obtain ⟨_, h⟩ := hA; exact h.wf
  have h2 := hwf.two
  have e0 : (nd N 0).v = 256 := by rw [hwf.ends 0 (by omega)]
  have e1 : (nd N 1).v = 256 := by rw [hwf.ends 1 (by omega)]
  have hM := mk_any i 0 1 hA (by omega) (by omega) (by omega) (by omega) (by omega) hcap
  have a0 : w.cell? ⟨A.a, 0, none⟩ = some (.int .i64 V) := by obtain ⟨_, h⟩ := hA; exact h.cellAt rfl
  have i1 : (i : Int) ≤ 255 := by omega
  have i2 : ¬ (i : Int) < 0 := by omega
  have i3 : ¬ (V : Int) ≤ (i : Int) := by omega
  unfold Blks.val at *
  have HM := Lib.hid hM
  have HH := Lib.hid hH
  have HW := Lib.hid (And.intro hwf (And.intro e0 e1))
  clear hM hA hcap hH hwf e0 e1
  go_enter Try.func39, Try.ntmps39
  go_wp2_with fail
  refine HM.out.mono ?_
  rintro e W2 ⟨r, N2, rfl, hm, hA2, hk2⟩
  have hgd := MkTo.good hm HW.out.1 (by omega) (by omega) (by rw [HW.out.2.1]; omega) (by rw [HW.out.2.2]; omega)
  have HMK := Lib.hid hm
  have HGD := Lib.hid hgd
  have HK := Lib.hid hk2
  have HGI := Lib.hid (give_any r hA2 hgd.2.2.1 (ext_ok hgd.1 HH.out))
  unfold Blks.val at HGI
  clear hm hA2 hk2 hgd
  go_wp2_with (refine HGI.out.mono ?_; rintro e W4 hgv; have HGV := Lib.hid hgv; obtain ⟨q, ec, rfl⟩ := hgv.form; clear hgv)
  go_ret2
  exact ⟨r, N2, W2, HMK.out, HGD.out.2.1, HGD.out.2.2.1, HK.out, HGV.out⟩
end
end Go.Proofs.Ytcchiagclhkieaa

/-
  The walk of the arena's below, whatever is done at each node.
-/
namespace Go.Proofs.Ytcchiagclhkieaa
open Go Go.RowKit Go.ChangeMaps Go.MapKept Go.Maps Go.Lib Go.Sort

/-- Only blocks of the frame have turned, and blocks were laid. -/
structure Calm (Fr : World → Nat → Prop) (W W' : World) : Prop where
  os : W'.os = W.os
  tape : W'.tape = W.tape
  output : W'.output = W.output
  size : W.heap.size ≤ W'.heap.size
  block : ∀ k, k < W.heap.size → ¬ Fr W k → W'.heap[k]? = W.heap[k]?
theorem Calm.of_below {Fr : World → Nat → Prop} {W W' : World} (h : Below W.heap.size W W') : Calm Fr W W' := ⟨h.os, h.tape, h.output, h.size, fun k hk _ => h.block k hk⟩
theorem Calm.of_grown {Fr : World → Nat → Prop} {W W' : World} {b : Nat} (h : W.grownBy W' (some b)) (hb : Fr W b) : Calm Fr W W' :=
  ⟨h.os, h.tape, h.output, h.size, fun k hk hn => h.block k hk (fun e => hn (by injection e with e; rw [e]; exact hb))⟩
/-- The nodes that below comes to, behind F. -/
def bel (N : List Nd) (n f : Nat) (F : List Nat) : List Nat := dfs N [] n f F
/-- What is done at a node: a state by the nodes that were met, and blocks that it leaves. -/
structure DoOk (fid : FuncId) (caps : Array Value) (B : Nat) (A : Blks) (V Mo : Nat) (N : List Nd) (H G : List Nat) (St : List Nat → World → Prop) (Fr : World → Nat → Prop) : Prop where
  en : ∀ (args : Array Value) (w : World), (callFunc fid args).run Try.prog w = .ok (.enter fid args) w
  ar : ∀ F W, St F W → ArAt W B A V Mo N H G
  calm : ∀ F W W', St F W → Calm Fr W W' → St F W' ∧ ∀ k, Fr W k → Fr W' k
  fresh : ∀ F W W' k, St F W → Calm Fr W W' → W.heap.size ≤ k → k < W'.heap.size → Fr W' k
  step : ∀ F (f : Nat) W, 2 ≤ f → f < N.length → f ∉ F → St F W → Calls Try.prog fid (#[.int .i32 f] ++ caps) W fun e W' => e = .returned (.tuple #[]) ∧ St (F ++ [f]) W' ∧ W.heap.size ≤ W'.heap.size ∧ ∀ k, Fr W k → W'.heap[k]? = W.heap[k]? ∧ Fr W' k
/-- The frame of below's walk. -/
structure BSt (A : Blks) (fid : FuncId) (caps : Array Value) (St : List Nat → World → Prop) (Fr : World → Nat → Prop) (bs bd bw ba bm : Nat) (F : List Nat) (W : World) : Prop where
  s : W.heap[bs]? = some (.cells #[.map (some bm)] 97 (0, 0))
  d : W.heap[bd]? = some (.cells #[.func (.func fid) #[] caps] 122 (0, 0))
  k : W.heap[bw]? = some (.cells #[.func (.func 89) #[] #[.pointer (some ⟨bs, 0, none⟩), .pointer (some ⟨bd, 0, none⟩), .pointer (some ⟨bw, 0, none⟩), .pointer (some ⟨ba, 0, none⟩)]] 122 (0, 0))
  a : W.heap[ba]? = some (.cells #[.pointer (some ⟨A.a, 0, none⟩)] 64 (0, 0))
  m : MapAt Try.prog 21 W bm (seenL F)
  ne : bs ≠ bm ∧ bd ≠ bm ∧ bw ≠ bm ∧ ba ≠ bm
  fr : Fr W bs ∧ Fr W bd ∧ Fr W bw ∧ Fr W ba ∧ Fr W bm
  st : St F W
theorem BSt.below {fid : FuncId} {caps : Array Value} {B : Nat} {A : Blks} {V Mo : Nat} {N : List Nd} {H G : List Nat} {St : List Nat → World → Prop} {Fr : World → Nat → Prop} (D : DoOk fid caps B A V Mo N H G St Fr) {bs bd bw ba bm : Nat} {F : List Nat} {W W' : World}
    (g : BSt A fid caps St Fr bs bd bw ba bm F W) (hb : Below W.heap.size W W') : BSt A fid caps St Fr bs bd bw ba bm F W' := by
  obtain ⟨h1, h2⟩ := D.calm F W W' g.st (.of_below hb)
  obtain ⟨f1, f2, f3, f4, f5⟩ := g.fr
  exact ⟨blk_below hb g.s, blk_below hb g.d, blk_below hb g.k, blk_below hb g.a, g.m.same (hb.block _ g.m.lt), g.ne, ⟨h2 _ f1, h2 _ f2, h2 _ f3, h2 _ f4, h2 _ f5⟩, h1⟩
/-- A node more that was seen. -/
theorem BSt.see {fid : FuncId} {caps : Array Value} {B : Nat} {A : Blks} {V Mo : Nat} {N : List Nd} {H G : List Nat} {St : List Nat → World → Prop} {Fr : World → Nat → Prop} (D : DoOk fid caps B A V Mo N H G St Fr) {bs bd bw ba bm : Nat} {F : List Nat} {f : Nat} {W w1 : World}
    (g : BSt A fid caps St Fr bs bd bw ba bm F W) (hm : MapAt Try.prog 21 w1 bm (putM (seenL F) (.int .i32 f) (.bool true))) (hg : W.grownBy w1 (some bm)) (h2 : 2 ≤ f) (hf : f ∉ F) :
    St F w1 ∧ MapAt Try.prog 21 w1 bm (seenL (F ++ [f])) ∧ (Fr w1 bs ∧ Fr w1 bd ∧ Fr w1 bw ∧ Fr w1 ba ∧ Fr w1 bm) ∧ (∀ k, k < W.heap.size → k ≠ bm → w1.heap[k]? = W.heap[k]?) := by
  obtain ⟨f1, f2, f3, f4, f5⟩ := g.fr
  obtain ⟨h1, h3⟩ := D.calm F W w1 g.st (.of_grown hg f5)
  rw [seenL_put F f h2 hf] at hm
  exact ⟨h1, hm, ⟨h3 _ f1, h3 _ f2, h3 _ f3, h3 _ f4, h3 _ f5⟩, fun k hk hkm => hg.block k hk (fun e => hkm (by injection e))⟩
theorem BSt.made {fid : FuncId} {caps : Array Value} {A : Blks} {St : List Nat → World → Prop} {Fr : World → Nat → Prop} {bs bd bw ba bm : Nat} {F : List Nat} {f : Nat} {W w1 w2 : World}
    (g : BSt A fid caps St Fr bs bd bw ba bm F W) (hm : MapAt Try.prog 21 w1 bm (seenL (F ++ [f]))) (hfr : Fr w1 bs ∧ Fr w1 bd ∧ Fr w1 bw ∧ Fr w1 ba ∧ Fr w1 bm) (hk : ∀ k, k < W.heap.size → k ≠ bm → w1.heap[k]? = W.heap[k]?)
    (hst : St (F ++ [f]) w2) (h2 : ∀ k, Fr w1 k → w2.heap[k]? = w1.heap[k]? ∧ Fr w2 k) : BSt A fid caps St Fr bs bd bw ba bm (F ++ [f]) w2 := by
  obtain ⟨n1, n2, n3, n4⟩ := g.ne
  obtain ⟨f1, f2, f3, f4, f5⟩ := hfr
  exact ⟨((h2 _ f1).1.trans (hk _ (lt_of_block g.s) n1)).trans g.s, ((h2 _ f2).1.trans (hk _ (lt_of_block g.d) n2)).trans g.d, ((h2 _ f3).1.trans (hk _ (lt_of_block g.k) n3)).trans g.k, ((h2 _ f4).1.trans (hk _ (lt_of_block g.a) n4)).trans g.a,
    hm.same (h2 _ f5).1, g.ne, ⟨(h2 _ f1).2, (h2 _ f2).2, (h2 _ f3).2, (h2 _ f4).2, (h2 _ f5).2⟩, hst⟩
set_option maxRecDepth 100000 in
set_option maxHeartbeats 8000000 in
theorem belowWalk_any {fid : FuncId} {caps : Array Value} {B : Nat} {A : Blks} {V Mo : Nat} {N : List Nd} {H G : List Nat} {St : List Nat → World → Prop} {Fr : World → Nat → Prop} (D : DoOk fid caps B A V Mo N H G St Fr) {bs bd bw ba bm : Nat} :
    ∀ (n f : Nat) (F : List Nat) (W : World), f < n → f < N.length → FOk N F → BSt A fid caps St Fr bs bd bw ba bm F W →
    Calls Try.prog 89 #[.int .i32 f, .pointer (some ⟨bs, 0, none⟩), .pointer (some ⟨bd, 0, none⟩), .pointer (some ⟨bw, 0, none⟩), .pointer (some ⟨ba, 0, none⟩)] W
      fun e W' => e = .returned (.tuple #[]) ∧ BSt A fid caps St Fr bs bd bw ba bm (bel N n f F) W' := by
  intro n
  induction n with
  | zero => intro f F W hf; omega
  | succ n ih =>
    intro f F W hfn hf hok hg
    have hAW := D.ar _ _ hg.st
    have hle : N.length ≤ 2147483647 := by obtain ⟨_, h⟩ := hAW; exact h.le
    have hwf : WF N := by obtain ⟨_, h⟩ := hAW; exact h.wf
    have hkf := key_i32 (a := (f : Int)) (by omega)
    have hl1 := hg.m.look i32_keyed Try.underlying97 (zero_bool W) false hkf
    rw [seenL_get] at hl1
    have L1 : (Instr.lookup 97 (.map (some bm)) (.int .i32 f) false).run Try.prog W = .ok ((if f < 2 ∨ f ∈ F then some (Value.bool true) else none).getD (.bool false)) W := hl1
    have c1 := cell0 hg.s
    have c2 := cell0 hg.d
    have HG := Lib.hid hg
    have HD := Lib.hid D
    clear hl1 hg hAW D
    by_cases hs : f < 2 ∨ f ∈ F
    · rw [if_pos hs] at L1
      have L1 : (Instr.lookup 97 (.map (some bm)) (.int .i32 f) false).run Try.prog W = .ok (.bool true) W := L1
      have HS := Lib.hid hs
      clear hs hwf
      go_enter Try.func89, Try.ntmps89
      go_wp2
      (try simp only [Exit.inBlock, Exit.then])
      refine bodyPost_ret (results_none rfl _ _ _) rfl ?_
      refine ⟨rfl, ?_⟩
      have : bel N (n + 1) f F = F := by
        show (if f < 2 ∨ f ∈ F ∨ f ∈ [] then F else _) = F
        rw [if_pos (by rcases HS.out with h | h; exact .inl h; exact .inr (.inl h))]
      rw [this]
      exact HG.out
    · rw [if_neg hs] at L1
      have L1 : (Instr.lookup 97 (.map (some bm)) (.int .i32 f) false).run Try.prog W = .ok (.bool false) W := L1
      have HS := Lib.hid hs
      have hf2 : 2 ≤ f := by omega
      have hfF : f ∉ F := fun h => hs (.inr h)
      have HX := Lib.hid (And.intro hf2 hfF)
      have hclo := hwf.lo f hf2 hf
      have hchi := hwf.hi f hf2 hf
      have hok1 := hok.snoc hf2 hf hfF
      have hok2 := dfs_ok hwf [] n (nd N f).lo (F ++ [f]) (by omega) hok1
      have IHL := Lib.hid (fun (W3 : World) (h3 : BSt A fid caps St Fr bs bd bw ba bm (F ++ [f]) W3) (W4 : World) (hb : Below W3.heap.size W3 W4) => ih (nd N f).lo (F ++ [f]) W4 (by omega) (by omega) hok1 (h3.below HD.out hb))
      have IHH := Lib.hid (fun (W5 : World) (hg5 : BSt A fid caps St Fr bs bd bw ba bm (bel N n (nd N f).lo (F ++ [f])) W5) (W6 : World) (hb : Below W5.heap.size W5 W6) => ih (nd N f).hi (bel N n (nd N f).lo (F ++ [f])) W6 (by omega) (by omega) hok2 (hg5.below HD.out hb))
      have HEQ : Hid (bel N (n + 1) f F = bel N n (nd N f).hi (bel N n (nd N f).lo (F ++ [f]))) := Lib.hid (by
        show (if f < 2 ∨ f ∈ F ∨ f ∈ [] then F else _) = _
        rw [if_neg (by
          rintro (h | h | h)
          · exact HS.out (.inl h)
          · exact HS.out (.inr h)
          · cases h)]
        rfl)
      have hI : (f : Int) < (N.length : Int) := by omega
      have hlb := lt_of_block HG.out.d
      have hen := HD.out.en
      clear hs hf2 hfF hclo hchi hok1 hok2 ih hok hfn hwf
      go_enter Try.func89, Try.ntmps89
      go_upto_region 2 with (refine wpList_mapAt rfl _ _ _ 97 4 rfl i32_keyed Try.underlying97 rfl (show MapAt _ _ W _ _ from HG.out.m) (.int .i32 f) (.bool true) _ rfl rfl hkf ?_; intro w1 hm1 hg1; obtain ⟨p1, p2, p3, p4⟩ := HG.out.see HD.out hm1 hg1 HX.out.1 HX.out.2; have P1 := Lib.hid p1; have P2 := Lib.hid p2; have P3 := Lib.hid p3; have P4 := Lib.hid p4; clear hm1 hg1 p1 p2 p3 p4)
      have c2' := cell0 ((P4.out bd hlb HG.out.ne.2.1).trans HG.out.d)
      clear c1 c2 L1
      go_upto_region 3 with (refine (HD.out.step F f w1 HX.out.1 hf HX.out.2 P1.out).mono ?_; rintro e w2 ⟨rfl, hst2, _, hfr2⟩; have HB2 := Lib.hid (HG.out.made P2.out P3.out P4.out hst2 hfr2); clear hst2 hfr2)
      have HA2 := Lib.hid (HD.out.ar _ _ HB2.out.st)
      have c1 := cell0 HB2.out.a
      have c2 := cell0 HB2.out.k
      obtain ⟨nv3, hA3⟩ := HA2.out
      obtain ⟨ng, cp, rfl, hat⟩ := hA3.at_node
      obtain ⟨_, x1, _⟩ := hat f hf
      have c3 : w2.cell? ⟨A.a, 2, none⟩ = some (.slice (some ⟨ng, 0, none⟩) N.length cp) := hA3.cellAt rfl
      clear hA3 hat c2' HA2
      have C1 := cell_regrown c1
      have C2 := cell_regrown c2
      have C3 := cell_regrown c3
      have X1 := cell_regrown x1
      refine wp_region_tail_below 9 (by kernel_rfl) (by kernel_rfl) ?_
      simp only [List.take_succ_cons, List.take_zero, List.drop_succ_cons, List.drop_zero]
      repeat (first | go_big_quiet_step (fail) | quiet_step (fail))
      refine wpQuiet_nil ?_
      intro W4 hw'
      obtain ⟨⟨nq, osq⟩, hw''⟩ := hw'
      subst hw''
      have HQ := Lib.hid (below_regrown w2 nq osq)
      clear C1 C2 C3 X1 c1 c2 c3 x1
      generalize grow (redrawn w2 nq) osq = W4 at *
      go_wp2_with fail
      refine (IHL.out w2 HB2.out W4 HQ.out).mono ?_
      rintro e W5 ⟨rfl, hg5⟩
      have HG5 := Lib.hid hg5
      clear hg5
      have HA5 := Lib.hid (HD.out.ar _ _ HG5.out.st)
      have c1 := cell0 HG5.out.a
      have c2 := cell0 HG5.out.k
      obtain ⟨nv5, hA5⟩ := HA5.out
      obtain ⟨ng5, cp5, rfl, hat5⟩ := hA5.at_node
      obtain ⟨_, _, x1⟩ := hat5 f hf
      have c3 : W5.cell? ⟨A.a, 2, none⟩ = some (.slice (some ⟨ng5, 0, none⟩) N.length cp5) := hA5.cellAt rfl
      clear hA5 hat5 HA5
      go_upto_region 4 with fail
      have C1 := cell_regrown c1
      have C2 := cell_regrown c2
      have C3 := cell_regrown c3
      have X1 := cell_regrown x1
      refine wp_region_tail_below 9 (by kernel_rfl) (by kernel_rfl) ?_
      simp only [List.take_succ_cons, List.take_zero, List.drop_succ_cons, List.drop_zero]
      repeat (first | go_big_quiet_step (fail) | quiet_step (fail))
      refine wpQuiet_nil ?_
      intro W6 hw'
      obtain ⟨⟨nq2, osq2⟩, hw''⟩ := hw'
      subst hw''
      have HQ2 := Lib.hid (below_regrown W5 nq2 osq2)
      clear C1 C2 C3 X1 c1 c2 c3 x1
      generalize grow (redrawn W5 nq2) osq2 = W6 at *
      go_wp2_with fail
      refine (IHH.out W5 HG5.out W6 HQ2.out).mono ?_
      rintro e W7 ⟨rfl, hg7⟩
      have HG7 := Lib.hid hg7
      clear hg7
      go_wp2
      go_end0
      refine ⟨rfl, ?_⟩
      rw [HEQ.out]
      exact HG7.out
end Go.Proofs.Ytcchiagclhkieaa

/-
  The arena's below, whatever is done at each node; its start.
-/
namespace Go.Proofs.Ytcchiagclhkieaa
open Go Go.RowKit Go.ChangeMaps Go.MapKept Go.Maps Go.Lib Go.Sort

/-- Where below's walk begins. -/
theorem BSt.start {fid : FuncId} {caps : Array Value} {B : Nat} {A : Blks} {V Mo : Nat} {N : List Nd} {H G : List Nat} {St : List Nat → World → Prop} {Fr : World → Nat → Prop} (D : DoOk fid caps B A V Mo N H G St Fr) {w w1 w2 : World} (hS : St [] w) (hg1 : (((w.alloc (.cells #[.pointer (some ⟨A.a, 0, none⟩)] 64)).alloc (.cells #[.func (.func fid) #[] caps] 122)).alloc (.map #[] 0)).grownBy w1 (some (w.heap.size + 1 + 1)))
    (hm2 : MapAt Try.prog 21 w2 (w.heap.size + 1 + 1) (putM (putM [] (.int .i32 0) (.bool true)) (.int .i32 1) (.bool true))) (hg2 : w1.grownBy w2 (some (w.heap.size + 1 + 1))) :
    ((w2.alloc (.cells #[.map (some (w.heap.size + 1 + 1))] 97)).alloc (.cells #[.nilFunc] 122)).heap[w2.heap.size + 1]? = some (.cells #[.nilFunc] 122 (0, 0)) ∧
      BSt A fid caps St Fr w2.heap.size (w.heap.size + 1) (w2.heap.size + 1) w.heap.size (w.heap.size + 1 + 1) [] (((w2.alloc (.cells #[.map (some (w.heap.size + 1 + 1))] 97)).alloc (.cells #[.nilFunc] 122)).setCell ⟨w2.heap.size + 1, 0, none⟩
        (.func (.func 89) #[] #[.pointer (some ⟨w2.heap.size, 0, none⟩), .pointer (some ⟨w.heap.size + 1, 0, none⟩), .pointer (some ⟨w2.heap.size + 1, 0, none⟩), .pointer (some ⟨w.heap.size, 0, none⟩)])) := by
  have hput : putM (putM [] (.int .i32 0) (.bool true)) (.int .i32 1) (.bool true) = seenL [] := by
    unfold putM
    simp [seenL, heldL]
  rw [hput] at hm2
  have ha := blk1 w (.cells #[.pointer (some ⟨A.a, 0, none⟩)] 64)
  have hf := blk1 (w.alloc (.cells #[.pointer (some ⟨A.a, 0, none⟩)] 64)) (.cells #[.func (.func fid) #[] caps] 122)
  have s1 : (w.alloc (.cells #[.pointer (some ⟨A.a, 0, none⟩)] 64)).heap.size = w.heap.size + 1 := by simp
  have s2 : ((w.alloc (.cells #[.pointer (some ⟨A.a, 0, none⟩)] 64)).alloc (.cells #[.func (.func fid) #[] caps] 122)).heap.size = w.heap.size + 1 + 1 := by simp
  have s3 : (((w.alloc (.cells #[.pointer (some ⟨A.a, 0, none⟩)] 64)).alloc (.cells #[.func (.func fid) #[] caps] 122)).alloc (.map #[] 0)).heap.size = w.heap.size + 1 + 1 + 1 := by simp
  rw [s1] at hf
  have z1 := hg1.size
  have z2 := hg2.size
  rw [s3] at z1
  have b1 := below1 (w.alloc (.cells #[.pointer (some ⟨A.a, 0, none⟩)] 64)) (.cells #[.func (.func fid) #[] caps] 122)
  have b2 := below1 ((w.alloc (.cells #[.pointer (some ⟨A.a, 0, none⟩)] 64)).alloc (.cells #[.func (.func fid) #[] caps] 122)) (.map #[] 0)
  have ha2 := blk_below b2 (blk_below b1 ha)
  have hf2 := blk_below b2 hf
  have e12 : ∀ k, k < w.heap.size + 1 + 1 → w2.heap[k]? = (((w.alloc (.cells #[.pointer (some ⟨A.a, 0, none⟩)] 64)).alloc (.cells #[.func (.func fid) #[] caps] 122)).alloc (.map #[] 0)).heap[k]? := fun k hk =>
    (hg2.block k (by omega) (fun e => by injection e; omega)).trans (hg1.block k (by rw [s3]; omega) (fun e => by injection e; omega))
  have hb0 := (below2 w (.cells #[.pointer (some ⟨A.a, 0, none⟩)] 64) (.cells #[.func (.func fid) #[] caps] 122)).alloc (by rw [s2]; omega) (.map #[] 0)
  generalize (((w.alloc (.cells #[.pointer (some ⟨A.a, 0, none⟩)] 64)).alloc (.cells #[.func (.func fid) #[] caps] 122)).alloc (.map #[] 0)) = W0 at *
  have hs2 := blk1 w2 (.cells #[.map (some (w.heap.size + 1 + 1))] 97)
  have hw2 := blk1 (w2.alloc (.cells #[.map (some (w.heap.size + 1 + 1))] 97)) (.cells #[.nilFunc] 122)
  have s5 : (w2.alloc (.cells #[.map (some (w.heap.size + 1 + 1))] 97)).heap.size = w2.heap.size + 1 := by simp
  rw [s5] at hw2
  have b4 := below2 w2 (.cells #[.map (some (w.heap.size + 1 + 1))] 97) (.cells #[.nilFunc] 122)
  have hs3 := blk_below (below1 (w2.alloc (.cells #[.map (some (w.heap.size + 1 + 1))] 97)) (.cells #[.nilFunc] 122)) hs2
  have ha4 := blk_below b4 ((e12 w.heap.size (by omega)).trans ha2)
  have hf4 := blk_below b4 ((e12 (w.heap.size + 1) (by omega)).trans hf2)
  have hm4 := hm2.same (b4.block _ hm2.lt)
  have hb4 : Below w.heap.size w ((w2.alloc (.cells #[.map (some (w.heap.size + 1 + 1))] 97)).alloc (.cells #[.nilFunc] 122)) :=
    ⟨b4.os.trans (hg2.os.trans (hg1.os.trans hb0.os)), b4.tape.trans (hg2.tape.trans (hg1.tape.trans hb0.tape)), b4.output.trans (hg2.output.trans (hg1.output.trans hb0.output)), by have := b4.size; omega,
      fun k hk => (b4.block k (by omega)).trans ((e12 k (by omega)).trans (hb0.block k hk))⟩
  generalize (w2.alloc (.cells #[.map (some (w.heap.size + 1 + 1))] 97)).alloc (.cells #[.nilFunc] 122) = W4 at *
  have st : ∀ k, k ≠ w2.heap.size + 1 → (W4.setCell ⟨w2.heap.size + 1, 0, none⟩ (.func (.func 89) #[] #[.pointer (some ⟨w2.heap.size, 0, none⟩), .pointer (some ⟨w.heap.size + 1, 0, none⟩), .pointer (some ⟨w2.heap.size + 1, 0, none⟩), .pointer (some ⟨w.heap.size, 0, none⟩)])).heap[k]? = W4.heap[k]? := fun k hk => Below.heap_setCell W4 ⟨w2.heap.size + 1, 0, none⟩ _ k hk
  have hsz : (W4.setCell ⟨w2.heap.size + 1, 0, none⟩ (.func (.func 89) #[] #[.pointer (some ⟨w2.heap.size, 0, none⟩), .pointer (some ⟨w.heap.size + 1, 0, none⟩), .pointer (some ⟨w2.heap.size + 1, 0, none⟩), .pointer (some ⟨w.heap.size, 0, none⟩)])).heap.size = W4.heap.size := by simp [World.setCell]
  have z4 := b4.size
  have lm := hm2.lt
  have hns : w2.heap.size ≠ w.heap.size + 1 + 1 := by omega
  have hbF : Below w.heap.size w (W4.setCell ⟨w2.heap.size + 1, 0, none⟩ (.func (.func 89) #[] #[.pointer (some ⟨w2.heap.size, 0, none⟩), .pointer (some ⟨w.heap.size + 1, 0, none⟩), .pointer (some ⟨w2.heap.size + 1, 0, none⟩), .pointer (some ⟨w.heap.size, 0, none⟩)])) := ⟨hb4.os, hb4.tape, hb4.output, by have := hb4.size; omega, fun k hk => (st k (by omega)).trans (hb4.block k hk)⟩
  have hcal := Calm.of_below (Fr := Fr) hbF
  obtain ⟨hSt, _⟩ := D.calm [] w _ hS hcal
  have lbs := lt_of_block hs3
  have lbw := lt_of_block hw2
  have fr := fun k h1 h2 => D.fresh [] w _ k hS hcal h1 h2
  refine ⟨hw2, (st _ (by omega)).trans hs3, (st _ (by omega)).trans hf4, set_at hw2, (st _ (by omega)).trans ha4, hm4.same (st _ (by omega)), by omega, ⟨fr _ (by omega) (by omega), fr _ (by omega) (by omega), fr _ (by omega) (by omega), fr _ (by omega) (by omega), fr _ (by omega) (by omega)⟩, hSt⟩
set_option maxRecDepth 100000 in
set_option maxHeartbeats 8000000 in
theorem below_any {fid : FuncId} {caps : Array Value} {B : Nat} {A : Blks} {V Mo : Nat} {N : List Nd} {H G : List Nat} {St : List Nat → World → Prop} {Fr : World → Nat → Prop} (D : DoOk fid caps B A V Mo N H G St Fr) {w : World} (f : Nat) (hf : f < N.length) (hS : St [] w) :
    Calls Try.prog 72 #[A.val, .int .i32 f, .func (.func fid) #[] caps] w fun e W' => e = .returned (.tuple #[]) ∧ St (bel N (f + 1) f []) W' := by
  have hk0 := key_i32 (a := 0) (by omega)
  have hk1 := key_i32 (a := 1) (by omega)
  have hmm := @run_makeMap Try.prog
  have hrs := @run_store_fn Try.prog
  have HS := Lib.hid hS
  have HD := Lib.hid D
  clear hS D
  unfold Blks.val
  have hM : MapAt Try.prog 21 (((w.alloc (.cells #[.pointer (some ⟨A.a, 0, none⟩)] 64)).alloc (.cells #[.func (.func fid) #[] caps] 122)).alloc (.map #[] 0)) (w.heap.size + 1 + 1) [] := by
    have := MapAt.made Try.prog 21 ((w.alloc (.cells #[.pointer (some ⟨A.a, 0, none⟩)] 64)).alloc (.cells #[.func (.func fid) #[] caps] 122))
    simpa using this
  go_enter Try.func72, Try.ntmps72
  go_upto_region 3 with (first
    | (refine wpList_mapIns rfl _ _ _ 97 4 rfl i32_keyed Try.underlying97 rfl hM (.int .i32 0) (.bool true) _ rfl rfl hk0 ?_; intro w1 hm1 hg1)
    | (refine wpList_mapIns rfl _ _ _ 97 4 rfl i32_keyed Try.underlying97 rfl hm1 (.int .i32 1) (.bool true) _ rfl rfl hk1 ?_; intro w2 hm2 hg2))
  obtain ⟨hbw, hst⟩ := BSt.start HD.out HS.out hg1 hm2 hg2
  have hcw := cell0 hbw
  have hfw := frozen_of_row _ _ 0 _ _ hbw
  have HST := Lib.hid hst
  clear hst hbw hm1 hg1 hm2 hg2 hM hk0 hk1 hmm
  generalize (w2.alloc (.cells #[.map (some (w.heap.size + 1 + 1))] 97)).alloc (.cells #[.nilFunc] 122) = W4 at *
  generalize w2.heap.size + 1 = bw at *
  generalize w2.heap.size = bs at *
  go_upto_region 4 with fail
  generalize W4.setCell ⟨bw, 0, none⟩ (.func (.func 89) #[] #[.pointer (some ⟨bs, 0, none⟩), .pointer (some ⟨w.heap.size + 1, 0, none⟩), .pointer (some ⟨bw, 0, none⟩), .pointer (some ⟨w.heap.size, 0, none⟩)]) = W5 at *
  have c5 := cell0 HST.out.k
  clear hcw hfw hrs
  go_wp2_with (refine (belowWalk_any HD.out (f + 1) f [] W5 (by omega) hf ⟨List.nodup_nil, by simp⟩ HST.out).mono ?_; rintro e W6 ⟨rfl, hg6⟩; have HG6 := Lib.hid hg6; clear hg6 HST c5)
  go_end0
  exact ⟨rfl, HG6.out.st⟩
end Go.Proofs.Ytcchiagclhkieaa

/-
  The arena's Size.
-/
namespace Go.Proofs.Ytcchiagclhkieaa
open Go Go.RowKit Go.ChangeMaps Go.MapKept Go.Maps Go.Lib Go.Sort

/-- The arena where only blocks of others turned. -/
theorem ArNv.calm {w w' : World} {B : Nat} {A : Blks} {V Mo : Nat} {N : List Nd} {H G : List Nat} {nv : Value} (h : ArNv w B A V Mo N H G nv) (hs : w.heap.size ≤ w'.heap.size) (hb : ∀ k, k < w.heap.size → ¬ Foreign A w k → w'.heap[k]? = w.heap[k]?) :
    ArNv w' B A V Mo N H G nv ∧ (∀ k, Foreign A w k → Foreign A w' k) ∧ ∀ k, w.heap.size ≤ k → k < w'.heap.size → Foreign A w' k := by
  obtain ⟨lb, hlb, hbo⟩ := h.by_
  obtain ⟨li, hli, hio⟩ := h.ites
  have own : ∀ k ∈ A.list, k < w.heap.size → w'.heap[k]? = w.heap[k]? := fun k hk hlt => hb k hlt (fun f => f.2.1 hk)
  have hin : ∀ k ∈ A.list, k < w.heap.size := by
    intro k hm
    have hm' : k = A.a ∨ k = A.b ∨ k = A.i ∨ k = A.g ∨ k = A.h := by simpa [Blks.list] using hm
    have := lt_of_block h.cells
    have := hlb.lt
    have := hli.lt
    have := h.given.lt
    have := h.held.lt
    omega
  have hc := (own A.a (by simp [Blks.list]) (lt_of_block h.cells)).trans h.cells
  have c2 : w'.cell? ⟨A.a, 2, none⟩ = some nv := by rw [cell_of_row w' _ 2 _ _ (0, 0) hc]; rfl
  refine ⟨⟨hc, owns_like h.row fun k hk => hb k (h.row.lt k hk).2 fun f => f.2.2 nv h.cell2 hk, ⟨lb, hlb.same (own A.b (by simp [Blks.list]) hlb.lt), hbo⟩, ⟨li, hli.same (own A.i (by simp [Blks.list]) hli.lt), hio⟩,
    h.given.same (own A.g (by simp [Blks.list]) h.given.lt), h.held.same (own A.h (by simp [Blks.list]) h.held.lt), h.nodup, h.base, h.off, h.wf, h.le⟩, fun k hk => ⟨Nat.lt_of_lt_of_le hk.1 hs, hk.2.1, fun u hu => ?_⟩, fun k hk1 hk2 => ⟨hk2, fun hm => by have := hin k hm; omega, fun u hu hh => ?_⟩⟩
  · rw [c2] at hu
    injection hu with hu
    subst hu
    exact hk.2.2 _ h.cell2
  · rw [c2] at hu
    injection hu with hu
    subst hu
    have := (h.row.lt k hh).2
    omega
/-- The count of what was met. -/
structure SizeSt (w0 : World) (B : Nat) (A : Blks) (V Mo : Nat) (N : List Nd) (H G : List Nat) (n0 : Nat) (F : List Nat) (W : World) : Prop where
  ar : ArAt W B A V Mo N H G
  n : W.heap[n0]? = some (.cells #[.int .i64 F.length] 3 (0, 0))
  fn : Foreign A W n0
  b : Below w0.heap.size w0 W
  ok : FOk N F
def SizeFr (w0 : World) (A : Blks) (n0 : Nat) (W : World) (k : Nat) : Prop := Foreign A W k ∧ k ≠ n0 ∧ w0.heap.size ≤ k
theorem SizeSt.calm {w0 : World} {B : Nat} {A : Blks} {V Mo : Nat} {N : List Nd} {H G : List Nat} {n0 : Nat} {F : List Nat} {W W' : World} (s : SizeSt w0 B A V Mo N H G n0 F W) (h : Calm (SizeFr w0 A n0) W W') :
    SizeSt w0 B A V Mo N H G n0 F W' ∧ (∀ k, SizeFr w0 A n0 W k → SizeFr w0 A n0 W' k) ∧ ∀ k, W.heap.size ≤ k → k < W'.heap.size → SizeFr w0 A n0 W' k := by
  obtain ⟨nv, hA⟩ := s.ar
  obtain ⟨a1, a2, a3⟩ := hA.calm h.size fun k hk hf => h.block k hk fun hh => hf hh.1
  have hb := s.b.size
  have ln := lt_of_block s.n
  refine ⟨⟨⟨nv, a1⟩, (h.block n0 ln (fun hh => hh.2.1 rfl)).trans s.n, a2 _ s.fn, ⟨h.os.trans s.b.os, h.tape.trans s.b.tape, h.output.trans s.b.output, Nat.le_trans hb h.size, fun k hk => (h.block k (by omega) (fun hh => by have := hh.2.2; omega)).trans (s.b.block k hk)⟩, s.ok⟩,
    fun k hk => ⟨a2 k hk.1, hk.2⟩, fun k h1 h2 => ⟨a3 k h1 h2, by omega, by omega⟩⟩
set_option maxHeartbeats 400000 in
theorem sizeEn (args : Array Value) (w : World) : (callFunc 73 args).run Try.prog w = .ok (.enter 73 args) w := by
  go_simp
set_option maxRecDepth 100000 in
set_option maxHeartbeats 400000 in
theorem sizeDo {w0 : World} {B : Nat} {A : Blks} {V Mo : Nat} {N : List Nd} {H G : List Nat} {n0 : Nat} (h0 : w0.heap.size ≤ n0) : DoOk 73 #[.pointer (some ⟨n0, 0, none⟩)] B A V Mo N H G (SizeSt w0 B A V Mo N H G n0) (SizeFr w0 A n0) where
  en := sizeEn
  ar := fun F W s => s.ar
  calm := fun F W W' s h => ⟨(s.calm h).1, (s.calm h).2.1⟩
  fresh := fun F W W' k s h h1 h2 => (s.calm h).2.2 k h1 h2
  step := by
    intro F f W h2 hf hF s
    have hle : N.length ≤ 2147483647 := by obtain ⟨_, h⟩ := s.ar; exact h.le
    have hl := s.ok.len
    have hlb : (F.length : Int) ≤ 2147483647 := by omega
    have c0 := cell0 s.n
    have fz := frozen_of_row W _ 0 _ _ s.n
    have HS := Lib.hid s
    have HX := Lib.hid (And.intro h2 (And.intro hf hF))
    clear s hl hle
    show Calls Try.prog 73 #[.int .i32 f, .pointer (some ⟨n0, 0, none⟩)] W _
    go_enter Try.func73, Try.ntmps73
    go_wp2
    go_end0
    have st : ∀ k, k ≠ n0 → (W.setCell ⟨n0, 0, none⟩ (.int .i64 ((F.length : Int) + 1))).heap[k]? = W.heap[k]? := fun k hk => Below.heap_setCell W ⟨n0, 0, none⟩ _ k hk
    have hsz : (W.setCell ⟨n0, 0, none⟩ (.int .i64 ((F.length : Int) + 1))).heap.size = W.heap.size := by simp [World.setCell]
    obtain ⟨nv, hA⟩ := HS.out.ar
    obtain ⟨a1, a2, a3⟩ := hA.calm (w' := W.setCell ⟨n0, 0, none⟩ (.int .i64 ((F.length : Int) + 1))) (by omega) fun k hk hf => st k fun e => hf (e ▸ HS.out.fn)
    refine ⟨rfl, ⟨⟨nv, a1⟩, ?_, a2 _ HS.out.fn, ⟨HS.out.b.os, HS.out.b.tape, HS.out.b.output, by have := HS.out.b.size; omega, fun k hk => (st k (by omega)).trans (HS.out.b.block k hk)⟩, HS.out.ok.snoc HX.out.1 HX.out.2.1 HX.out.2.2⟩, by omega, fun k hk => ⟨st k hk.2.1, a2 k hk.1, hk.2⟩⟩
    rw [List.length_append]
    exact set_at HS.out.n
set_option maxRecDepth 100000 in
set_option maxHeartbeats 400000 in
theorem Size_any {w : World} {B : Nat} {A : Blks} {V Mo : Nat} {N : List Nd} {H G : List Nat} (f : Nat) (hA : ArAt w B A V Mo N H G) (hf : f ∈ G ∧ f < N.length) :
    Calls Try.prog 41 #[A.val, .int .i64 f] w fun e w' => e = .returned (.tuple #[.int .i64 (bel N (f + 1) f []).length, .int .i64 0]) ∧ Below w.heap.size w w' := by
  generalize hF : bel N (f + 1) f [] = F
  have hle : N.length ≤ 2147483647 := by obtain ⟨_, h⟩ := hA; exact h.le
  have hb1 := below1 w (.cells ([f].map fun (n : Nat) => Value.int .i64 (n : Int)).toArray 3)
  have hA1 := hA.below hb1
  have hck := check_any hA1 [f] w.heap.size 1 (new_cells w [f] 3) (by
    intro x hx
    simp at hx
    subst hx
    exact ⟨hf.1, by omega⟩) (by simp)
  have HA1 := Lib.hid hA1
  have HB1 := Lib.hid hb1
  have hck : Calls Try.prog 46 #[A.val, .slice (some ⟨w.heap.size, 0, none⟩) 1 1] (w.alloc (.cells #[.int .i64 f] 3)) fun e w' => e = .returned (.int .i64 0) ∧ Below (w.alloc (.cells #[.int .i64 f] 3)).heap.size (w.alloc (.cells #[.int .i64 f] 3)) w' := hck
  have HCK := Lib.hid hck
  have HA := Lib.hid hA
  have f1 := hf.2
  have f2 : (f : Int) ≤ 2147483646 := by omega
  have HF := Lib.hid hF
  clear hA hA1 hb1 hck hf hF
  unfold Blks.val at *
  go_enter Try.func41, Try.ntmps41
  go_upto_region 5 with ((with_reducible refine HCK.out.mono ?_); rintro e W2 ⟨rfl, hb2⟩; have HB2 := Lib.hid (HB1.out.trans (hb2.mono HB1.out.size)); clear hb2)
  have hb3 := HB2.out.alloc HB2.out.size (.cells #[.int .i64 0] 3)
  have kn := blk1 W2 (.cells #[.int .i64 0] 3)
  have hA3 := HA.out.below hb3
  have hst : SizeSt w B A V Mo N H G W2.heap.size [] (W2.alloc (.cells #[.int .i64 0] 3)) := ⟨hA3, kn, HA.out.foreign_new hb3 HB2.out.size (lt_of_block kn), hb3, ⟨List.nodup_nil, by simp⟩⟩
  have hbl := below_any (sizeDo HB2.out.size) f f1 hst
  rw [HF.out] at hbl
  unfold Blks.val at hbl
  have HBL := Lib.hid hbl
  clear hbl hst kn hb3 hA3 HA HA1 HB1 HCK
  generalize W2.alloc (.cells #[.int .i64 0] 3) = W3 at *
  go_upto_region 6 with ((with_reducible refine HBL.out.mono ?_); rintro e W4 ⟨rfl, hs4⟩; have HS4 := Lib.hid hs4; clear hs4)
  have cn := cell0 HS4.out.n
  have HB4 := Lib.hid HS4.out.b
  clear HS4 HF
  go_wp2
  go_ret2
  exact ⟨rfl, HB4.out⟩
end Go.Proofs.Ytcchiagclhkieaa

/-
  Joined texts: Ex3, Ex4, Ex5, Ex6, Filt6, Filt7, Filt8, LawFD, Rw1, Rw2, Rw3.
-/
import Derived.Test.YtbahehmfhjkgeaaGreatMRelRefuses11
import Derived.Deep.CutBlock
import Derived.Carry
import Derived.Test.YtbahehmfhjkgeaaGreatMRelRefuses1
import Derived.Test.YtbahehmfhjkgeaaGreatMRelRefuses5
import Derived.Test.YtbahehmfhjkgeaaGreatMRelRefuses2
import Derived.Test.YtbahehmfhjkgeaaGreatMRelRefuses7
import Derived.Laws.StructEq
import Derived.Deep.DeepCutAuto
import Derived.Deep.RegionLawGrows
import Derived.Deep.RegionHeldLaw
import Derived.Deep.RegionHeld3
import Derived.Test.YtbahehmfhjkgeaaGreatShelf3
import Derived.Test.YtbahehmfhjkgeaaGreatMRelRefuses10
/-
  each: its start, and what it comes to.
-/
namespace Go.Proofs.YtbahehmfhjkgeaaGreat
open Go Go.RowKit Go.ChangeMaps Go.MapKept Go.Maps Go.Lib Go.Sort

theorem ESt.startBelow {fid : FuncId} {caps : Array Value} {A : Blks} {w w1 w2 : World} (hg1 : (((w.alloc (.cells #[.pointer (some ⟨A.a, 0, none⟩)] 108)).alloc (.cells #[.func (.func fid) #[] caps] 280)).alloc (.map #[] 0)).grownBy w1 (some (w.heap.size + 1 + 1)))
    (hm2 : w.heap.size + 1 + 1 < w2.heap.size) (hg2 : w1.grownBy w2 (some (w.heap.size + 1 + 1))) :
    RowKit.Below w.heap.size w (((w2.alloc (.cells #[.map (some (w.heap.size + 1 + 1))] 284)).alloc (.cells #[.nilFunc] 307)).setCell ⟨w2.heap.size + 1, 0, none⟩ (.func (.func 212) #[] #[.pointer (some ⟨w2.heap.size, 0, none⟩), .pointer (some ⟨w.heap.size, 0, none⟩), .pointer (some ⟨w2.heap.size + 1, 0, none⟩), .pointer (some ⟨w.heap.size + 1, 0, none⟩)])) := by
  have ha := blk1 w (.cells #[.pointer (some ⟨A.a, 0, none⟩)] 108)
  have hf := blk1 (w.alloc (.cells #[.pointer (some ⟨A.a, 0, none⟩)] 108)) (.cells #[.func (.func fid) #[] caps] 280)
  have s1 : (w.alloc (.cells #[.pointer (some ⟨A.a, 0, none⟩)] 108)).heap.size = w.heap.size + 1 := by simp
  have s2 : ((w.alloc (.cells #[.pointer (some ⟨A.a, 0, none⟩)] 108)).alloc (.cells #[.func (.func fid) #[] caps] 280)).heap.size = w.heap.size + 1 + 1 := by simp
  have s3 : (((w.alloc (.cells #[.pointer (some ⟨A.a, 0, none⟩)] 108)).alloc (.cells #[.func (.func fid) #[] caps] 280)).alloc (.map #[] 0)).heap.size = w.heap.size + 1 + 1 + 1 := by simp
  rw [s1] at hf
  have z1 := hg1.size
  have z2 := hg2.size
  rw [s3] at z1
  have b1 := below1 (w.alloc (.cells #[.pointer (some ⟨A.a, 0, none⟩)] 108)) (.cells #[.func (.func fid) #[] caps] 280)
  have b2 := below1 ((w.alloc (.cells #[.pointer (some ⟨A.a, 0, none⟩)] 108)).alloc (.cells #[.func (.func fid) #[] caps] 280)) (.map #[] 0)
  have ha2 := blk_below b2 (blk_below b1 ha)
  have hf2 := blk_below b2 hf
  have e12 : ∀ k, k < w.heap.size + 1 + 1 → w2.heap[k]? = (((w.alloc (.cells #[.pointer (some ⟨A.a, 0, none⟩)] 108)).alloc (.cells #[.func (.func fid) #[] caps] 280)).alloc (.map #[] 0)).heap[k]? := fun k hk =>
    (hg2.block k (by omega) (fun e => by injection e; omega)).trans (hg1.block k (by rw [s3]; omega) (fun e => by injection e; omega))
  have hb0 := (below2 w (.cells #[.pointer (some ⟨A.a, 0, none⟩)] 108) (.cells #[.func (.func fid) #[] caps] 280)).alloc (by rw [s2]; omega) (.map #[] 0)
  generalize (((w.alloc (.cells #[.pointer (some ⟨A.a, 0, none⟩)] 108)).alloc (.cells #[.func (.func fid) #[] caps] 280)).alloc (.map #[] 0)) = W0 at *
  have hs2 := blk1 w2 (.cells #[.map (some (w.heap.size + 1 + 1))] 284)
  have hw2 := blk1 (w2.alloc (.cells #[.map (some (w.heap.size + 1 + 1))] 284)) (.cells #[.nilFunc] 307)
  have s5 : (w2.alloc (.cells #[.map (some (w.heap.size + 1 + 1))] 284)).heap.size = w2.heap.size + 1 := by simp
  rw [s5] at hw2
  have b4 := below2 w2 (.cells #[.map (some (w.heap.size + 1 + 1))] 284) (.cells #[.nilFunc] 307)
  have hs3 := blk_below (below1 (w2.alloc (.cells #[.map (some (w.heap.size + 1 + 1))] 284)) (.cells #[.nilFunc] 307)) hs2
  have ha4 := blk_below b4 ((e12 w.heap.size (by omega)).trans ha2)
  have hf4 := blk_below b4 ((e12 (w.heap.size + 1) (by omega)).trans hf2)
  have hb4 : Below w.heap.size w ((w2.alloc (.cells #[.map (some (w.heap.size + 1 + 1))] 284)).alloc (.cells #[.nilFunc] 307)) :=
    ⟨b4.os.trans (hg2.os.trans (hg1.os.trans hb0.os)), b4.tape.trans (hg2.tape.trans (hg1.tape.trans hb0.tape)), b4.output.trans (hg2.output.trans (hg1.output.trans hb0.output)), by have := b4.size; omega,
      fun k hk => (b4.block k (by omega)).trans ((e12 k (by omega)).trans (hb0.block k hk))⟩
  generalize (w2.alloc (.cells #[.map (some (w.heap.size + 1 + 1))] 284)).alloc (.cells #[.nilFunc] 307) = W4 at *
  have st : ∀ k, k ≠ w2.heap.size + 1 → (W4.setCell ⟨w2.heap.size + 1, 0, none⟩ (.func (.func 212) #[] #[.pointer (some ⟨w2.heap.size, 0, none⟩), .pointer (some ⟨w.heap.size, 0, none⟩), .pointer (some ⟨w2.heap.size + 1, 0, none⟩), .pointer (some ⟨w.heap.size + 1, 0, none⟩)])).heap[k]? = W4.heap[k]? := fun k hk => Below.heap_setCell W4 ⟨w2.heap.size + 1, 0, none⟩ _ k hk
  have hsz : (W4.setCell ⟨w2.heap.size + 1, 0, none⟩ (.func (.func 212) #[] #[.pointer (some ⟨w2.heap.size, 0, none⟩), .pointer (some ⟨w.heap.size, 0, none⟩), .pointer (some ⟨w2.heap.size + 1, 0, none⟩), .pointer (some ⟨w.heap.size + 1, 0, none⟩)])).heap.size = W4.heap.size := by simp [World.setCell]
  have z4 := b4.size
  have hns : w2.heap.size ≠ w.heap.size + 1 + 1 := by omega
  have hbF : Below w.heap.size w (W4.setCell ⟨w2.heap.size + 1, 0, none⟩ (.func (.func 212) #[] #[.pointer (some ⟨w2.heap.size, 0, none⟩), .pointer (some ⟨w.heap.size, 0, none⟩), .pointer (some ⟨w2.heap.size + 1, 0, none⟩), .pointer (some ⟨w.heap.size + 1, 0, none⟩)])) := ⟨hb4.os, hb4.tape, hb4.output, by have := hb4.size; omega, fun k hk => (st k (by omega)).trans (hb4.block k hk)⟩
  exact hbF
theorem ESt.start {fid : FuncId} {caps : Array Value} {B : Nat} {A : Blks} {V Mo : Nat} {N : List Nd} {H G : List Nat} {X : Nat → Fun} {c lim f0 : Nat} {P : World → Prop} (M : MadeOk fid caps B A V Mo N H G f0 c lim X P) {w w1 w2 : World} (hA : ArAt w B A V Mo N H G) (hP : P w) (hlim : lim ≤ w.heap.size) (h0 : ∀ s, X 0 s = false) (h1 : ∀ s, X 1 s = true) (hg1 : (((w.alloc (.cells #[.pointer (some ⟨A.a, 0, none⟩)] 108)).alloc (.cells #[.func (.func fid) #[] caps] 280)).alloc (.map #[] 0)).grownBy w1 (some (w.heap.size + 1 + 1)))
    (hm2 : MapAt Tryz.prog 21 w2 (w.heap.size + 1 + 1) (putM (putM [] (.int .i32 0) (.int .i32 0)) (.int .i32 1) (.int .i32 1))) (hg2 : w1.grownBy w2 (some (w.heap.size + 1 + 1))) :
    ((w2.alloc (.cells #[.map (some (w.heap.size + 1 + 1))] 284)).alloc (.cells #[.nilFunc] 307)).heap[w2.heap.size + 1]? = some (.cells #[.nilFunc] 307 (0, 0)) ∧
      ESt fid caps B A V Mo N H G X c lim P w2.heap.size w.heap.size (w2.heap.size + 1) (w.heap.size + 1) (w.heap.size + 1 + 1) N [] (putM (putM [] (.int .i32 0) (.int .i32 0)) (.int .i32 1) (.int .i32 1)) (((w2.alloc (.cells #[.map (some (w.heap.size + 1 + 1))] 284)).alloc (.cells #[.nilFunc] 307)).setCell ⟨w2.heap.size + 1, 0, none⟩
        (.func (.func 212) #[] #[.pointer (some ⟨w2.heap.size, 0, none⟩), .pointer (some ⟨w.heap.size, 0, none⟩), .pointer (some ⟨w2.heap.size + 1, 0, none⟩), .pointer (some ⟨w.heap.size + 1, 0, none⟩)])) := by
  have ha := blk1 w (.cells #[.pointer (some ⟨A.a, 0, none⟩)] 108)
  have hf := blk1 (w.alloc (.cells #[.pointer (some ⟨A.a, 0, none⟩)] 108)) (.cells #[.func (.func fid) #[] caps] 280)
  have s1 : (w.alloc (.cells #[.pointer (some ⟨A.a, 0, none⟩)] 108)).heap.size = w.heap.size + 1 := by simp
  have s2 : ((w.alloc (.cells #[.pointer (some ⟨A.a, 0, none⟩)] 108)).alloc (.cells #[.func (.func fid) #[] caps] 280)).heap.size = w.heap.size + 1 + 1 := by simp
  have s3 : (((w.alloc (.cells #[.pointer (some ⟨A.a, 0, none⟩)] 108)).alloc (.cells #[.func (.func fid) #[] caps] 280)).alloc (.map #[] 0)).heap.size = w.heap.size + 1 + 1 + 1 := by simp
  rw [s1] at hf
  have z1 := hg1.size
  have z2 := hg2.size
  rw [s3] at z1
  have b1 := below1 (w.alloc (.cells #[.pointer (some ⟨A.a, 0, none⟩)] 108)) (.cells #[.func (.func fid) #[] caps] 280)
  have b2 := below1 ((w.alloc (.cells #[.pointer (some ⟨A.a, 0, none⟩)] 108)).alloc (.cells #[.func (.func fid) #[] caps] 280)) (.map #[] 0)
  have ha2 := blk_below b2 (blk_below b1 ha)
  have hf2 := blk_below b2 hf
  have e12 : ∀ k, k < w.heap.size + 1 + 1 → w2.heap[k]? = (((w.alloc (.cells #[.pointer (some ⟨A.a, 0, none⟩)] 108)).alloc (.cells #[.func (.func fid) #[] caps] 280)).alloc (.map #[] 0)).heap[k]? := fun k hk =>
    (hg2.block k (by omega) (fun e => by injection e; omega)).trans (hg1.block k (by rw [s3]; omega) (fun e => by injection e; omega))
  have hb0 := (below2 w (.cells #[.pointer (some ⟨A.a, 0, none⟩)] 108) (.cells #[.func (.func fid) #[] caps] 280)).alloc (by rw [s2]; omega) (.map #[] 0)
  generalize (((w.alloc (.cells #[.pointer (some ⟨A.a, 0, none⟩)] 108)).alloc (.cells #[.func (.func fid) #[] caps] 280)).alloc (.map #[] 0)) = W0 at *
  have hs2 := blk1 w2 (.cells #[.map (some (w.heap.size + 1 + 1))] 284)
  have hw2 := blk1 (w2.alloc (.cells #[.map (some (w.heap.size + 1 + 1))] 284)) (.cells #[.nilFunc] 307)
  have s5 : (w2.alloc (.cells #[.map (some (w.heap.size + 1 + 1))] 284)).heap.size = w2.heap.size + 1 := by simp
  rw [s5] at hw2
  have b4 := below2 w2 (.cells #[.map (some (w.heap.size + 1 + 1))] 284) (.cells #[.nilFunc] 307)
  have hs3 := blk_below (below1 (w2.alloc (.cells #[.map (some (w.heap.size + 1 + 1))] 284)) (.cells #[.nilFunc] 307)) hs2
  have ha4 := blk_below b4 ((e12 w.heap.size (by omega)).trans ha2)
  have hf4 := blk_below b4 ((e12 (w.heap.size + 1) (by omega)).trans hf2)
  have hm4 := hm2.same (b4.block _ hm2.lt)
  have hb4 : Below w.heap.size w ((w2.alloc (.cells #[.map (some (w.heap.size + 1 + 1))] 284)).alloc (.cells #[.nilFunc] 307)) :=
    ⟨b4.os.trans (hg2.os.trans (hg1.os.trans hb0.os)), b4.tape.trans (hg2.tape.trans (hg1.tape.trans hb0.tape)), b4.output.trans (hg2.output.trans (hg1.output.trans hb0.output)), by have := b4.size; omega,
      fun k hk => (b4.block k (by omega)).trans ((e12 k (by omega)).trans (hb0.block k hk))⟩
  generalize (w2.alloc (.cells #[.map (some (w.heap.size + 1 + 1))] 284)).alloc (.cells #[.nilFunc] 307) = W4 at *
  have st : ∀ k, k ≠ w2.heap.size + 1 → (W4.setCell ⟨w2.heap.size + 1, 0, none⟩ (.func (.func 212) #[] #[.pointer (some ⟨w2.heap.size, 0, none⟩), .pointer (some ⟨w.heap.size, 0, none⟩), .pointer (some ⟨w2.heap.size + 1, 0, none⟩), .pointer (some ⟨w.heap.size + 1, 0, none⟩)])).heap[k]? = W4.heap[k]? := fun k hk => Below.heap_setCell W4 ⟨w2.heap.size + 1, 0, none⟩ _ k hk
  have hsz : (W4.setCell ⟨w2.heap.size + 1, 0, none⟩ (.func (.func 212) #[] #[.pointer (some ⟨w2.heap.size, 0, none⟩), .pointer (some ⟨w.heap.size, 0, none⟩), .pointer (some ⟨w2.heap.size + 1, 0, none⟩), .pointer (some ⟨w.heap.size + 1, 0, none⟩)])).heap.size = W4.heap.size := by simp [World.setCell]
  have z4 := b4.size
  have lm := hm2.lt
  have hns : w2.heap.size ≠ w.heap.size + 1 + 1 := by omega
  have hbF : Below w.heap.size w (W4.setCell ⟨w2.heap.size + 1, 0, none⟩ (.func (.func 212) #[] #[.pointer (some ⟨w2.heap.size, 0, none⟩), .pointer (some ⟨w.heap.size, 0, none⟩), .pointer (some ⟨w2.heap.size + 1, 0, none⟩), .pointer (some ⟨w.heap.size + 1, 0, none⟩)])) := ⟨hb4.os, hb4.tape, hb4.output, by have := hb4.size; omega, fun k hk => (st k (by omega)).trans (hb4.block k hk)⟩
  have hkM := (Kept.of_below (A := A) hA.a_lt hbF).toM (bm := w.heap.size + 1 + 1)
  have lbs := lt_of_block hs3
  have lbw := lt_of_block hw2
  have fr := fun k (h1 : w.heap.size ≤ k) h2 => hA.foreign_new hbF h1 (k := k) h2
  have hwf : WF N := by obtain ⟨_, h⟩ := hA; exact h.wf
  have hok : DoneE N N X c [] (putM (putM [] (.int .i32 0) (.int .i32 0)) (.int .i32 1) (.int .i32 1)) := by
    refine ⟨fun i hi => ?_, ?_, List.nodup_nil, by simp, by simp⟩
    · by_cases e0 : i = 0
      · subst e0
        refine .inr ⟨0, ?_, hi, fun s => by rw [h0, ev_zero]⟩
        unfold putM getM
        simp
      by_cases e1 : i = 1
      · subst e1
        refine .inr ⟨1, ?_, hi, fun s => by rw [h1, ev_one]⟩
        unfold putM getM
        simp
      refine .inl ⟨?_, by omega, by simp⟩
      unfold putM getM
      simp
      omega
    · unfold putM
      simp
  exact ⟨hw2, hA.below hbF, Ext.refl _, ⟨fr _ (by omega) (by omega), fr _ (by omega) (by omega), fr _ (by omega) (by omega), fr _ (by omega) (by omega), fr _ (by omega) (by omega)⟩, by omega, (st _ (by omega)).trans hs3, (st _ (by omega)).trans ha4, set_at hw2, (st _ (by omega)).trans hf4, hm4.same (st _ (by omega)), hok, M.calm _ w _ (by omega) hP hkM, by omega⟩
set_option maxRecDepth 100000 in
set_option maxHeartbeats 8000000 in
theorem bddEach_any {fid : FuncId} {caps : Array Value} {B : Nat} {A : Blks} {V Mo : Nat} {N : List Nd} {H G : List Nat} {X : Nat → Fun} {c lim : Nat} {P : World → Prop} {w : World} (f : Nat) (M : MadeOk fid caps B A V Mo N H G f c lim X P) (hA : ArAt w B A V Mo N H G) (hP : P w) (hlim : lim ≤ w.heap.size) (h0 : ∀ s, X 0 s = false) (h1 : ∀ s, X 1 s = true) (hroom : N.length + c * N.length ≤ 2147483647) (hf : f < N.length) :
    Calls Tryz.prog 184 #[A.val, .int .i32 f, .func (.func fid) #[] caps] w fun e W' => ∃ (r : Nat) (N' : List Nd), e = .returned (.int .i32 r) ∧ ArAt W' B A V Mo N' H G ∧ Ext N N' ∧ r < N'.length ∧ (∀ s, ev N' s r = X f s) ∧ N'.length ≤ N.length + c * N.length ∧ Kept A w W' := by
  have hwf : WF N := by obtain ⟨_, h⟩ := hA; exact h.wf
  have hle : N.length ≤ 2147483647 := by obtain ⟨_, h⟩ := hA; exact h.le
  have hfb : (f : Int) ≤ 2147483646 := by omega
  have hz := zero_i32
  have hk0 := key_i32 (a := 0) (by omega)
  have hk1 := key_i32 (a := 1) (by omega)
  have hmm := @run_makeMap Tryz.prog
  have hrs := @run_store_fn Tryz.prog
  have HM := Lib.hid M
  have HA := Lib.hid hA
  have HPP := Lib.hid hP
  clear hA hP M
  unfold Blks.val
  have hM : MapAt Tryz.prog 21 (((w.alloc (.cells #[.pointer (some ⟨A.a, 0, none⟩)] 108)).alloc (.cells #[.func (.func fid) #[] caps] 280)).alloc (.map #[] 0)) (w.heap.size + 1 + 1) [] := by
    have := MapAt.made Tryz.prog 21 ((w.alloc (.cells #[.pointer (some ⟨A.a, 0, none⟩)] 108)).alloc (.cells #[.func (.func fid) #[] caps] 280))
    simpa using this
  go_enter Tryz.func184, Tryz.ntmps184
  go_upto_region 3 with (first
    | (refine wpList_mapIns rfl _ _ _ 284 21 rfl i32_keyed Tryz.underlying284 rfl hM (.int .i32 0) (.int .i32 0) _ rfl rfl hk0 ?_; intro w1 hm1 hg1)
    | (refine wpList_mapIns rfl _ _ _ 284 21 rfl i32_keyed Tryz.underlying284 rfl hm1 (.int .i32 1) (.int .i32 1) _ rfl rfl hk1 ?_; intro w2 hm2 hg2))
  obtain ⟨hbw, hst⟩ := ESt.start HM.out HA.out HPP.out hlim h0 h1 hg1 hm2 hg2
  have HSZ : Hid (w.heap.size + 1 + 1 < w2.heap.size) := Lib.hid hm2.lt
  have HBF := Lib.hid (ESt.startBelow (fid := fid) (caps := caps) (A := A) hg1 hm2.lt hg2)
  have hcw := cell0 hbw
  have hfw := frozen_of_row _ _ 0 _ _ hbw
  have HST := Lib.hid hst
  clear hst hbw hm1 hg1 hm2 hg2 hM hk0 hk1 hmm
  generalize (w2.alloc (.cells #[.map (some (w.heap.size + 1 + 1))] 284)).alloc (.cells #[.nilFunc] 307) = W4 at *
  generalize w2.heap.size + 1 = bw at *
  generalize w2.heap.size = bs at *
  go_upto_region 4 with fail
  generalize W4.setCell ⟨bw, 0, none⟩ (.func (.func 212) #[] #[.pointer (some ⟨bs, 0, none⟩), .pointer (some ⟨w.heap.size, 0, none⟩), .pointer (some ⟨bw, 0, none⟩), .pointer (some ⟨w.heap.size + 1, 0, none⟩)]) = W5 at *
  have c5 := cell0 HST.out.k
  clear hcw hfw hrs
  go_wp2_with (refine (eachWalk_any HM.out hroom hwf (f + 1) f N [] _ W5 (by omega) hf (.refl _) HST.out).mono ?_; rintro e W6 ⟨r, N', D', K', rfl, hg6, he6, hl6, hs6, hk6, hd6⟩; have HG6 := Lib.hid hg6; have HS6 := Lib.hid hs6; have HK6 := Lib.hid hk6; clear hg6 hs6 hk6 c5)
  go_ret
  refine ⟨r, N', rfl, HG6.out.ar, HG6.out.ext, hl6, HS6.out, HG6.out.ok.room0, ?_⟩
  have hb := HBF.out
  have h5 := HK6.out
  have h4 := (Kept.of_below (A := A) HA.out.a_lt hb)
  exact ⟨h5.os.trans h4.os, h5.tape.trans h4.tape, h5.output.trans h4.output, Nat.le_trans h4.size h5.size, fun k hk => ⟨((h5.same k (h4.same k hk).2).2 (by have := hk.1; omega)).trans (h4.same k hk).1, (h5.same k (h4.same k hk).2).1⟩⟩
end Go.Proofs.YtbahehmfhjkgeaaGreat

/-
  Exists: what becomes of a node; over's made keeps to it.
-/
namespace Go.Proofs.YtbahehmfhjkgeaaGreat
open Go Go.RowKit Go.ChangeMaps Go.MapKept Go.Maps Go.Lib Go.Sort

theorem exF_tail {o a : Nat} {G : Fun} (h : ∀ s t : Nat → Bool, (∀ u, a ≤ u → s u = t u) → G s = G t) : ∀ s t : Nat → Bool, (∀ u, a ≤ u → s u = t u) → exF o G s = exF o G t := by
  have one : ∀ s t : Nat → Bool, (∀ u, a ≤ u → s u = t u) → exF o G s = true → exF o G t = true := fun s t e hs => by
    obtain ⟨x, hx, hg⟩ := exF_iff.1 hs
    refine exF_iff.2 ⟨fun u => if a ≤ u then x u else t u, fun u hu => ?_, ?_⟩
    · by_cases c : a ≤ u
      · simp only [c, if_true]
        rw [hx u hu, e u c]
      · simp only [c, if_false]
    · rw [← hg]
      refine h _ _ fun u h1 => ?_
      simp only [h1, if_true]
  intro s t e
  cases h1 : exF o G s
  · cases h2 : exF o G t
    · rfl
    · rw [one t s (fun u p => (e u p).symm) h2] at h1
      cases h1
  · rw [one s t e h1]
/-- What a node comes to. -/
noncomputable def exX (N0 : List Nd) (o : Nat) (i : Nat) : Fun := exF o (fun s => ev N0 s i)
theorem exX_zero (N0 : List Nd) (o : Nat) (s : Nat → Bool) : exX N0 o 0 s = false := congrFun (exF_const o false) s
theorem exX_one (N0 : List Nd) (o : Nat) (s : Nat → Bool) : exX N0 o 1 s = true := congrFun (exF_const o true) s
theorem exX_in {N0 : List Nd} (w0 : WF N0) {o i : Nat} (h2 : 2 ≤ i) (hi : i < N0.length) (hv : (nd N0 i).v % 2 = o) : exX N0 o i = fun s => if exX N0 o (nd N0 i).lo s then true else exX N0 o (nd N0 i).hi s :=
  exF_in hv (fun s => ev_node w0 s h2 hi) (fun s b => ev_put w0 (by have := w0.lo i h2 hi; omega) (w0.vlo i h2 hi) s b) (fun s b => ev_put w0 (by have := w0.hi i h2 hi; omega) (w0.vhi i h2 hi) s b)
theorem exX_out {N0 : List Nd} (w0 : WF N0) {o i : Nat} (h2 : 2 ≤ i) (hi : i < N0.length) (hv : (nd N0 i).v % 2 ≠ o) : exX N0 o i = fun s => if s (nd N0 i).v then exX N0 o (nd N0 i).hi s else exX N0 o (nd N0 i).lo s :=
  exF_out hv (fun s => ev_node w0 s h2 hi)
/-- A node that says what another one comes to is not ahead of it. -/
theorem exX_level {N0 N : List Nd} (w0 : WF N0) (w : WF N) {o j r m : Nat} (hj : j < N0.length) (hr : r < N.length) (hs : ∀ s, ev N s r = exX N0 o j s) (hm : m ≤ 256) (hv : m ≤ (nd N0 j).v) : m ≤ (nd N r).v :=
  w.level hr hm fun s t e => by
    rw [hs, hs]
    exact exF_tail (fun s t e => ev_agree w0 j s t hj fun u hu => e u (Nat.le_trans hv hu)) s t e
/-- Which variables go. -/
def isL (o k : Nat) : List Bool := (List.range 256).map fun i => decide (i % 2 = o ∧ i / 2 < k)
def bvL (L : List Bool) : Array Value := (L.map Value.bool).toArray
theorem isL_get (o k : Nat) {i : Nat} (hi : i < 256) : (bvL (isL o k))[i]? = some (.bool (decide (i % 2 = o ∧ i / 2 < k))) := by
  unfold bvL isL
  simp [hi]
theorem isL_succ {o k : Nat} (ho : o < 2) (hk : k < 104) : (bvL (isL o k)).setIfInBounds (2 * k + o) (.bool true) = bvL (isL o (k + 1)) := by
  unfold bvL isL
  apply Array.ext'
  simp only [List.setIfInBounds_toArray]
  apply List.ext_getElem?
  intro i
  rw [List.getElem?_set]
  simp only [List.length_map, List.length_range]
  by_cases e : 2 * k + o = i
  · subst e
    rw [if_pos rfl, if_pos (by omega)]
    simp only [List.getElem?_map, List.getElem?_range (show 2 * k + o < 256 by omega), Option.map_some, Option.some.injEq, Value.bool.injEq]
    exact (decide_eq_true (show (2 * k + o) % 2 = o ∧ (2 * k + o) / 2 < k + 1 by omega)).symm
  · rw [if_neg e]
    simp only [List.getElem?_map]
    rcases Nat.lt_or_ge i 256 with h | h
    · rw [List.getElem?_range h]
      simp only [Option.map_some, Option.some.injEq, Value.bool.injEq, decide_eq_decide]
      constructor
      · rintro ⟨a, b⟩; exact ⟨a, by omega⟩
      · rintro ⟨a, b⟩; exact ⟨a, by omega⟩
    · rw [List.getElem?_eq_none (by simpa using h)]
      rfl
/-- What over's made is given. -/
structure OvP (A : Blks) (o bi bd ba be lim : Nat) (W : World) : Prop where
  i : W.heap[bi]? = some (.cells (bvL (isL o 104)) 306 (0, 0))
  d : W.heap[bd]? = some (.cells #[.func (.func 182) #[] #[.pointer (some ⟨be, 0, none⟩)]] 282 (0, 0))
  a : W.heap[ba]? = some (.cells #[.pointer (some ⟨A.a, 0, none⟩)] 108 (0, 0))
  e : W.heap[be]? = some (.cells #[.pointer (some ⟨A.a, 0, none⟩)] 108 (0, 0))
  fr : Foreign A W bi ∧ Foreign A W bd ∧ Foreign A W ba ∧ Foreign A W be
  lm : bi < lim ∧ bd < lim ∧ ba < lim ∧ be < lim
theorem OvP.calm {A : Blks} {o bi bd ba be lim bm : Nat} {W W' : World} (h : OvP A o bi bd ba be lim W) (hm : lim ≤ bm) (hk : KeptM A bm W W') : OvP A o bi bd ba be lim W' := by
  obtain ⟨f1, f2, f3, f4⟩ := h.fr
  obtain ⟨l1, l2, l3, l4⟩ := h.lm
  exact ⟨((hk.same _ f1).2 (by omega)).trans h.i, ((hk.same _ f2).2 (by omega)).trans h.d, ((hk.same _ f3).2 (by omega)).trans h.a, ((hk.same _ f4).2 (by omega)).trans h.e, ⟨(hk.same _ f1).1, (hk.same _ f2).1, (hk.same _ f3).1, (hk.same _ f4).1⟩, h.lm⟩
set_option maxRecDepth 100000 in
set_option maxHeartbeats 4000000 in
theorem exMade1 {W : World} {B : Nat} {A : Blks} {V Mo : Nat} {N : List Nd} {H G : List Nat} (be lo hi : Nat) (hA : ArAt W B A V Mo N H G) (hlo : lo < N.length) (hhi : hi < N.length) (hc : Cap N lo 1 hi) (he : W.cell? ⟨be, 0, none⟩ = some (.pointer (some ⟨A.a, 0, none⟩))) :
    Calls Tryz.prog 182 #[.int .i32 lo, .int .i32 hi, .pointer (some ⟨be, 0, none⟩)] W (IteRes W B A V Mo N H G lo 1 hi) := by
  have hwf : WF N := by obtain ⟨_, h⟩ := hA; exact h.wf
  have hI := ite_any _ W B A V Mo N H G lo 1 hi (Nat.le_refl _) hA hlo (by have := hwf.two; omega) hhi hc
  unfold Blks.val at hI
  have HI := Lib.hid (show Calls Tryz.prog 180 #[.pointer (some ⟨A.a, 0, none⟩), .int .i32 lo, .int .i32 1, .int .i32 hi] W (IteRes W B A V Mo N H G lo 1 hi) from hI)
  clear hI hA hc hwf
  go_enter Tryz.func182, Tryz.ntmps182
  go_wp2_with (refine HI.out.mono ?_; rintro e W2 ⟨r, N', rfl, ht, hA2, hk2⟩; have HR := Lib.hid (And.intro ht (And.intro hA2 hk2)); clear ht hA2 hk2)
  go_ret
  exact ⟨r, N', rfl, HR.out⟩
set_option maxRecDepth 100000 in
set_option maxHeartbeats 4000000 in
theorem ov_made {B : Nat} {A : Blks} {V Mo : Nat} {N0 : List Nd} {H G : List Nat} {f0 c lim o bi bd ba be : Nat} (ho : o < 2) (w0 : WF N0) (hc : 1 ≤ c) (hv : ∀ i, 2 ≤ i → Rch N0 f0 i → (nd N0 i).v < 208) (hW : ∀ i, 2 ≤ i → Rch N0 f0 i → Wid (exX N0 o i) c) :
    MadeOk 210 #[.pointer (some ⟨bi, 0, none⟩), .pointer (some ⟨bd, 0, none⟩), .pointer (some ⟨ba, 0, none⟩)] B A V Mo N0 H G f0 c lim (exX N0 o) (OvP A o bi bd ba be lim) := by
  refine ⟨fun _ _ => rfl, fun bm W W' hm hP hk => hP.calm hm hk, ?_⟩
  intro i lo hi N W h2 hi0 hr hext hA hP hlo hhi hslo hshi hroom
  have hwf : WF N := by obtain ⟨_, h⟩ := hA; exact h.wf
  have h208 := hv i h2 hr
  have hwid := hW i h2 hr
  have HA := Lib.hid hA
  have HP := Lib.hid hP
  have c1 : W.cell? ⟨bi, (nd N0 i).v, none⟩ = some (.bool (decide ((nd N0 i).v % 2 = o ∧ (nd N0 i).v / 2 < 104))) := (cell_of_row _ _ _ _ _ (0, 0) hP.i).trans (isL_get o 104 (by omega))
  have clo := w0.lo i h2 hi0
  have chi := w0.hi i h2 hi0
  have vlo := w0.vlo i h2 hi0
  have vhi := w0.vhi i h2 hi0
  clear hA
  by_cases hin : (nd N0 i).v % 2 = o
  · have hX := exX_in w0 h2 hi0 hin
    have hsem : (fun s => if ev N s lo then ev N s 1 else ev N s hi) = exX N0 o i := by
      rw [hX]
      funext s
      rw [hslo, hshi, ev_one]
    have hcap : Cap N lo 1 hi := Cap.of_wid hwf.two (by rw [hsem]; exact hwid) hroom
    have HM := Lib.hid (exMade1 be lo hi HA.out hlo hhi hcap (cell0 HP.out.e))
    rw [show decide ((nd N0 i).v % 2 = o ∧ (nd N0 i).v / 2 < 104) = true from decide_eq_true ⟨hin, by omega⟩] at c1
    have c2 := cell0 hP.d
    have hvI : ((nd N0 i).v : Int) < 256 := by omega
    have HSEM := Lib.hid hsem
    have HWID := Lib.hid hwid
    clear hX hsem hcap hP hwid
    go_enter Tryz.func210, Tryz.ntmps210
    go_wp2_with (refine HM.out.mono ?_; rintro e W2 ⟨r, N', rfl, ht, hA2, hk2⟩; have HR := Lib.hid (And.intro ht (And.intro hA2 hk2)); clear ht hA2 hk2)
    go_ret
    refine ⟨r, N', rfl, HR.out.1.ext, HR.out.1.lt, fun s => ?_, ?_, HR.out.2.1, HR.out.2.2⟩
    · rw [HR.out.1.sem]
      exact congrFun HSEM.out s
    · exact HR.out.1.len hwf.two (by rw [HSEM.out]; exact HWID.out)
  · have hX := exX_out w0 h2 hi0 hin
    have hvl := exX_level w0 hwf (m := (nd N0 i).v + 1) (by omega) hlo hslo (by omega) vlo
    have hvh := exX_level w0 hwf (m := (nd N0 i).v + 1) (by omega) hhi hshi (by omega) vhi
    have hml : ∀ r N', MkTo N (nd N0 i).v lo hi r N' → N'.length ≤ N.length + 1 := fun r N' h => by
      rcases h with ⟨_, _, rfl⟩ | ⟨_, _, _, _, rfl⟩ | ⟨_, _, _, rfl⟩
      · omega
      · omega
      · simp
    have hmk := mk_any (nd N0 i).v lo hi HA.out hlo hhi (by omega) hvl hvh (fun r N' h => by have := hml r N' h; omega)
    unfold Blks.val at hmk
    have HM := Lib.hid hmk
    rw [show decide ((nd N0 i).v % 2 = o ∧ (nd N0 i).v / 2 < 104) = false from decide_eq_false (fun h => hin h.1)] at c1
    have c2 := cell0 hP.a
    have hvI : ((nd N0 i).v : Int) < 256 := by omega
    have HX := Lib.hid hX
    clear hX hP hwid hmk
    go_enter Tryz.func210, Tryz.ntmps210
    go_wp2_with (refine HM.out.mono ?_; rintro e W2 ⟨r, N', rfl, ht, hA2, hk2⟩; have HR := Lib.hid (And.intro ht (And.intro hA2 hk2)); clear ht hA2 hk2)
    go_ret
    obtain ⟨g1, g2, g3, g4⟩ := HR.out.1.good hwf hlo hhi hvl hvh
    refine ⟨r, N', rfl, g1, g3, fun s => ?_, ?_, HR.out.2.1, HR.out.2.2⟩
    · rw [g4, HX.out, hslo, hshi]
    · have := hml r N' HR.out.1
      omega
end Go.Proofs.YtbahehmfhjkgeaaGreat

/-
  over, where some values of the even (or odd) variables may be chosen; Exists.
-/
namespace Go.Proofs.YtbahehmfhjkgeaaGreat
open Go Go.RowKit Go.ChangeMaps Go.MapKept Go.Maps Go.Lib Go.Sort

theorem isL_zero (o : Nat) : isL o 0 = List.replicate 256 false := by
  unfold isL
  rw [List.eq_replicate_iff]
  refine ⟨by simp, fun b hb => ?_⟩
  obtain ⟨i, _, rfl⟩ := List.mem_map.1 hb
  exact decide_eq_false (fun h => by omega)
set_option maxRecDepth 100000 in
theorem Tryz.is0 (o : Nat) : Tryz.zeroCells306 = bvL (isL o 0) := by
  rw [isL_zero]
  rfl
/-- What Exists comes to, but for the handing out. -/
def ExTo (N : List Nd) (o c f r : Nat) (N' : List Nd) : Prop := Ext N N' ∧ (∀ s, ev N' s r = exX N o f s) ∧ N'.length ≤ N.length + c * N.length ∧ WF N' ∧ r < N'.length
set_option maxRecDepth 100000 in
set_option maxHeartbeats 8000000 in
theorem overEx_any {w : World} {B : Nat} {A : Blks} {Mo : Nat} {N : List Nd} {H G : List Nat} {o c be : Nat} (ho : o < 2) (hA : ArAt w B A 208 Mo N H G) (f : Nat) (hf : f ∈ G ∧ f < N.length) (hH : FOk N H) (he : w.heap[be]? = some (.cells #[.pointer (some ⟨A.a, 0, none⟩)] 108 (0, 0))) (hfe : Foreign A w be)
    (v : Value) (h : Rd w w.heap.size 1 v 104 (icells (varsL o 104))) (hc : 1 ≤ c) (hv : ∀ i, 2 ≤ i → Rch N f i → (nd N i).v < 208) (hW : ∀ i, 2 ≤ i → Rch N f i → Wid (exX N o i) c) (hroom : N.length + c * N.length ≤ 2147483647) :
    Calls Tryz.prog 181 #[A.val, .int .i64 f, v, .func (.func 182) #[] #[.pointer (some ⟨be, 0, none⟩)]] w (OpRes w B A 208 Mo H G (ExTo N o c f)) := by
  have hwf : WF N := by obtain ⟨_, h⟩ := hA; exact h.wf
  have hle : N.length ≤ 2147483647 := by obtain ⟨_, h⟩ := hA; exact h.le
  obtain ⟨PL, cp, rfl, hcp⟩ := h.form
  have f2 : (f : Int) ≤ 2147483646 := by have := hf.2; omega
  have hb := below2 w (.cells #[.pointer (some ⟨A.a, 0, none⟩)] 108) (.cells #[.func (.func 182) #[] #[.pointer (some ⟨be, 0, none⟩)]] 282)
  obtain ⟨k0, k1⟩ := blk2 w (.cells #[.pointer (some ⟨A.a, 0, none⟩)] 108) (.cells #[.func (.func 182) #[] #[.pointer (some ⟨be, 0, none⟩)]] 282)
  have HA := Lib.hid hA
  have HR := Lib.hid h
  have HB := Lib.hid hb
  have HK := Lib.hid (And.intro k0 k1)
  have HE := Lib.hid (And.intro he hfe)
  have HF := Lib.hid hf
  have HH := Lib.hid hH
  have HV := Lib.hid (And.intro hv hW)
  clear hA h hb he hfe hf hH hv hW
  unfold Blks.val
  go_enter Tryz.func181, Tryz.ntmps181
  go_upto_region 1 with fail
  generalize (w.alloc (.cells #[.pointer (some ⟨A.a, 0, none⟩)] 108)).alloc (.cells #[.func (.func 182) #[] #[.pointer (some ⟨be, 0, none⟩)]] 282) = w0 at *
  have hch := check_any ((HA.out.below HB.out).below (below1 w0 (.cells #[.int .i64 f] 3))) [f] w0.heap.size 1 (fun i x hi => by
    have h0 : i = 0 := by
      have := (List.getElem?_eq_some_iff.1 hi).1
      simp at this
      omega
    subst h0
    injection hi with hi
    subst hi
    rw [cell_of_row _ _ 0 _ _ (0, 0) (blk1 w0 (.cells #[.int .i64 f] 3))]; rfl) (fun x hx => by rw [List.mem_singleton.1 hx]; exact ⟨HF.out.1, by have := HF.out.2; omega⟩) (by simp)
  unfold Blks.val at hch
  rw [List.length_singleton] at hch
  have HCH := Lib.hid hch
  have c0 := cell0 k0
  clear hch k0 k1
  go_upto_region 2 with ((with_reducible refine HCH.out.mono ?_); rintro e w2 ⟨rfl, hb2⟩; have HB2 := Lib.hid ((below1 w0 (.cells #[.int .i64 f] 3)).trans (hb2.mono (below1 w0 (.cells #[.int .i64 f] 3)).size)); clear hb2)
  clear c0
  have k0 := blk_below HB2.out HK.out.1
  have c0 := cell0 k0
  have hkn := known_yes (HA.out.below (HB.out.trans (HB2.out.mono HB.out.size))) (varsL o 104) (.slice PL 104 cp) (by rw [varsL_len]; exact (HR.out.below (HB.out.trans (HB2.out.mono HB.out.size))).mono (HB.out.trans (HB2.out.mono HB.out.size)).size) (fun x hx => by
    obtain ⟨j, hj, rfl⟩ := List.mem_map.1 hx
    have := List.mem_range.1 hj
    omega) (by rw [varsL_len]; omega)
  unfold Blks.val at hkn
  have HKN := Lib.hid hkn
  clear hkn k0 HCH
  go_upto_region 6 with ((with_reducible refine HKN.out.mono ?_); rintro e w3 ⟨rfl, hb3⟩; have HB3 := Lib.hid (HB2.out.trans (hb3.mono HB2.out.size)); clear hb3)
  go_upto_region 7 with fail
  rw [Tryz.is0 o]
  have hb4 := below1 w3 (.cells (bvL (isL o 0)) 306)
  have k4 := blk1 w3 (.cells (bvL (isL o 0)) 306)
  have HB4 := Lib.hid (HB3.out.trans (hb4.mono HB3.out.size))
  have hz3 : w.heap.size + 1 < w3.heap.size := by have := lt_of_block HK.out.2; have := HB3.out.size; omega
  have HM := Lib.hid k4
  have K4 := Lib.hid (And.intro (blk_below HB4.out HK.out.1) (blk_below HB4.out HK.out.2))
  have HW4 := Lib.hid (HB.out.trans (HB4.out.mono HB.out.size))
  clear hb4 k4 c0 HB4 HB3 HB2 HK
  generalize w3.alloc (.cells (bvL (isL o 0)) 306) = w4 at *
  go_wp2
  go_loopw [27] (fun i wr => ∃ k : Nat, i = .int .i64 k ∧ k ≤ 104 ∧ Hid (wr.heap[w3.heap.size]? = some (.cells (bvL (isL o k)) 306 (0, 0))) ∧ Hid (wr.heap[w.heap.size]? = some (.cells #[.pointer (some ⟨A.a, 0, none⟩)] 108 (0, 0)) ∧ wr.heap[w.heap.size + 1]? = some (.cells #[.func (.func 182) #[] #[.pointer (some ⟨be, 0, none⟩)]] 282 (0, 0))) ∧ Hid (Below w.heap.size w wr)) (fun i _ => 104 - (intOf i).toNat)
  case atStart => exact ⟨0, rfl, by omega, HM, K4, HW4⟩
  case round =>
    obtain ⟨k, rfl, hk, HM5, HK5, HW5⟩ := hrel
    by_cases hlt : k < 104
    · have hI : (k : Int) < 104 := by omega
      obtain ⟨b, off, c', hv, _, hbB, hcell⟩ := HR.out.pos (by omega)
      injection hv with hv1 hv2 hv3
      subst hv1 hv3
      clear hv2
      obtain ⟨y, hy⟩ : ∃ y, 2 * k + o = y := ⟨_, rfl⟩
      have e0 : wr.cell? ⟨b, off + k, none⟩ = some (.int .i64 (y : Int)) := (HW5.out.cell (p := ⟨b, off + k, none⟩) hbB).trans (hcell k _ (by rw [← hy]; simp [icells, varsL_get o 104 hlt]))
      clear hcell
      have hyI : (y : Int) < 256 := by omega
      have d0 : wr.cell? ⟨w3.heap.size, y, none⟩ = some (.bool (decide (y % 2 = o ∧ y / 2 < k))) := (cell_of_row _ _ _ _ _ (0, 0) HM5.out).trans (isL_get o k (by omega))
      have g0 := frozen_of_row _ _ y _ _ HM5.out
      have HD0 := Lib.hid hy
      clear hy
      go_wp2
      have hsz := Nat.lt_trans hz3 (lt_of_block HM5.out)
      have hset := set_at (i := y) (u := .bool true) HM5.out
      rw [← HD0.out, isL_succ ho hlt] at hset
      rw [HD0.out] at hset
      exact ⟨⟨k + 1, by go_num, by omega, Lib.hid hset, Lib.hid ⟨set_far (p := ⟨w3.heap.size, y, none⟩) (u := .bool true) HK5.out.1 (by show w.heap.size ≠ w3.heap.size; omega), set_far (p := ⟨w3.heap.size, y, none⟩) (u := .bool true) HK5.out.2 (by show w.heap.size + 1 ≠ w3.heap.size; omega)⟩, Lib.hid (HW5.out.setCell (p := ⟨w3.heap.size, y, none⟩) (by show w.heap.size ≤ w3.heap.size; omega) (.bool true))⟩, by simp only [intOf]; omega⟩
    · obtain rfl : k = 104 := by omega
      have hI : ¬ (104 : Int) < 104 := by omega
      have c0 := cell0 HK5.out.1
      go_upto_region 12 with fail
      clear c0
      have hdr : Below wr.heap.size wr { wr with drawn := wr.drawn + 1 } := ⟨rfl, rfl, rfl, Nat.le_refl _, fun _ _ => rfl⟩
      have hwd := HW5.out.trans (hdr.mono HW5.out.size)
      have hAD := HA.out.below hwd
      have hPD : OvP A o w3.heap.size (w.heap.size + 1) w.heap.size be wr.heap.size { wr with drawn := wr.drawn + 1 } := by
        have l1 := lt_of_block HM5.out
        have l2 := lt_of_block HK5.out.2
        have l3 := HE.out.2.1
        refine ⟨HM5.out, HK5.out.2, HK5.out.1, (hwd.block _ HE.out.2.1).trans HE.out.1, ⟨HA.out.foreign_new hwd (by omega) l1, HA.out.foreign_new hwd (by omega) l2, HA.out.foreign_new hwd (by omega) (lt_of_block HK5.out.1), ((Kept.of_below HA.out.a_lt hwd).same _ HE.out.2).2⟩, l1, l2, lt_of_block HK5.out.1, by omega⟩
      have hea := bddEach_any f (ov_made (lim := wr.heap.size) (Mo := Mo) (V := 208) (B := B) (A := A) (H := H) (G := G) (bi := w3.heap.size) (bd := w.heap.size + 1) (ba := w.heap.size) (be := be) ho hwf hc HV.out.1 HV.out.2) hAD hPD (Nat.le_refl _) (exX_zero N o) (exX_one N o) hroom HF.out.2
      unfold Blks.val at hea
      obtain ⟨S, hS⟩ : ∃ S : World → Prop, S = fun x => x.heap[w.heap.size]? = some (.cells #[.pointer (some ⟨A.a, 0, none⟩)] 108 (0, 0)) := ⟨_, rfl⟩
      have hSI : ∀ x : World, x.heap[w.heap.size]? = some (.cells #[.pointer (some ⟨A.a, 0, none⟩)] 108 (0, 0)) → S x := fun x h => by rw [hS]; exact h
      have hSP : ∀ x : World, S x → x.heap[w.heap.size]? = some (.cells #[.pointer (some ⟨A.a, 0, none⟩)] 108 (0, 0)) := fun x h => by rw [hS] at h; exact h
      have hne : Nonempty (InW S) := ⟨⟨_, hSI _ hPD.a⟩⟩
      refine wp_region_mixS S [(0, false), (1, false), (2, false), (3, false), (4, true), (5, true), (6, true), (7, false), (8, false), (9, false), (10, false)] (by kernel_rfl) (by kernel_rfl) (hSI _ hPD.a) ?_
      have L0 : ∀ p : InW S, p.w.cell? ⟨w.heap.size, 0, none⟩ = some (.pointer (some ⟨A.a, 0, none⟩)) := fun p => cell0 (hSP _ p.h)
      have HKD := Lib.hid (Kept.of_below HA.out.a_lt hwd)
      have HFA := Lib.hid (And.intro hPD.a hPD.fr.2.2.1)
      have HEA := Lib.hid hea
      have HSI := Lib.hid hSI
      clear hdr hwd hAD hPD hea hSI hSP hS
      generalize { wr with drawn := wr.drawn + 1 } = V0 at *
      refine mix_take [0, 1, 2, 3] [_, _, _, _] rfl rfl ?_
      simp only [List.getElem_toArray, List.getElem_cons_zero, List.getElem_cons_succ]
      repeat (go_big_quiet_step (fail))
      refine wpQuiet_nil ?_
      have HN := Lib.hid hne
      clear L0 hne
      refine mix_barS rfl (by rfl) ?_
      simp only [List.getElem_toArray, List.getElem_cons_zero, List.getElem_cons_succ]
      go_simp
      refine ⟨S, HSI.out _ HFA.out.1, fun _ h => h, ?_⟩
      refine mix_barS rfl (by rfl) ?_
      simp only [List.getElem_toArray, List.getElem_cons_zero, List.getElem_cons_succ]
      go_simp
      refine HEA.out.mono ?_
      rintro e V1 ⟨r, N', rfl, hA1, he1, hr1, hs1, hl1, hk1⟩
      have hw1 : WF N' := by obtain ⟨_, h⟩ := hA1; exact h.wf
      have hgi := give_any r hA1 hr1 (ext_ok he1 HH.out)
      unfold Blks.val at hgi
      have HGI := Lib.hid hgi
      have HT := Lib.hid (show ExTo N o c f r N' from ⟨he1, hs1, hl1, hw1, hr1⟩)
      have HK1 := Lib.hid (HKD.out.trans hk1)
      have HF1 := Lib.hid (And.intro ((hk1.same _ HFA.out.2).1.trans HFA.out.1) (hk1.same _ HFA.out.2).2)
      clear hA1 he1 hs1 hl1 hk1 hgi HEA
      refine ⟨S, HSI.out _ HF1.out.1, fun _ h => h, ?_⟩
      refine mix_barS rfl (by rfl) ?_
      simp only [List.getElem_toArray, List.getElem_cons_zero, List.getElem_cons_succ]
      go_simp
      refine HGI.out.mono ?_
      rintro e V2 hgv
      have HGV := Lib.hid hgv
      have hS2 : V2.heap[w.heap.size]? = some (.cells #[.pointer (some ⟨A.a, 0, none⟩)] 108 (0, 0)) := by
        rcases hgv with ⟨_, _, _, hk⟩ | ⟨_, _, _, hk⟩
        · exact (hk.same _ HF1.out.2).1.trans HF1.out.1
        · exact (hk.same _ HF1.out.2).1.trans HF1.out.1
      obtain ⟨q, ec, rfl⟩ := hgv.form
      refine ⟨S, HSI.out _ hS2, fun _ h => h, ?_⟩
      clear hgv hS2
      have hne2 := HN.out
      refine mix_take [7, 8, 9, 10] [_, _, _, _] rfl rfl ?_
      simp only [List.getElem_toArray, List.getElem_cons_zero, List.getElem_cons_succ]
      repeat (go_big_quiet_step (fail))
      refine wpQuiet_nil ?_
      refine mix_end ?_
      clear hne2
      go_wp2
      go_ret2
      exact ⟨r, N', V1, HT.out, hw1, hr1, HK1.out, HGV.out⟩
set_option maxRecDepth 100000 in
set_option maxHeartbeats 4000000 in
theorem bddExists_any {w : World} {B : Nat} {A : Blks} {Mo : Nat} {N : List Nd} {H G : List Nat} {o c : Nat} (ho : o < 2) (hA : ArAt w B A 208 Mo N H G) (f : Nat) (hf : f ∈ G ∧ f < N.length) (hH : FOk N H)
    (v : Value) (h : Rd w w.heap.size 1 v 104 (icells (varsL o 104))) (hc : 1 ≤ c) (hv : ∀ i, 2 ≤ i → Rch N f i → (nd N i).v < 208) (hW : ∀ i, 2 ≤ i → Rch N f i → Wid (exX N o i) c) (hroom : N.length + c * N.length ≤ 2147483647) :
    Calls Tryz.prog 94 #[A.val, .int .i64 f, v] w (OpRes w B A 208 Mo H G (ExTo N o c f)) := by
  obtain ⟨PL, cp, rfl, hcp⟩ := h.form
  have hb := below1 w (.cells #[.pointer (some ⟨A.a, 0, none⟩)] 108)
  have k0 := blk1 w (.cells #[.pointer (some ⟨A.a, 0, none⟩)] 108)
  have hov := overEx_any ho (hA.below hb) f hf hH k0 (hA.foreign_new hb (Nat.le_refl _) (lt_of_block k0)) _ ((h.below hb).mono hb.size) hc hv hW hroom
  unfold Blks.val at *
  have HOV := Lib.hid hov
  have HKB := Lib.hid (Kept.of_below hA.a_lt hb)
  have c0 := cell0 k0
  clear hov hb k0 hA h hv hW
  go_enter Tryz.func94, Tryz.ntmps94
  go_upto_region 1 with fail
  generalize w.alloc (.cells #[.pointer (some ⟨A.a, 0, none⟩)] 108) = w1 at *
  go_wp2_with ((with_reducible refine HOV.out.mono ?_); rintro e w2 ⟨r, N', w3, h1, h2, h3, h4, h5⟩; have HR := Lib.hid (show OpRes w B A 208 Mo H G (ExTo N o c f) e w2 from ⟨r, N', w3, h1, h2, h3, HKB.out.trans h4, h5⟩); obtain ⟨q, ec, rfl⟩ := h5.form; clear h1 h2 h3 h4)
  go_ret2
  exact HR.out
section
variable {w : World} {B S km : Nat} {A : Blks} {Mo : Nat} {σ : Sg}
/-- Where some values may be chosen, in a space. -/
theorem SpOk.ex (h : SpOk w B S km A Mo σ) {f o c m : Nat} {F : Fun} (ho : o < 2) (hf : Den σ f F) (v : Value) (hr : Rd w w.heap.size 1 v 104 (icells (varsL o 104))) (hc : 1 ≤ c) (hW : ∀ i, 2 ≤ i → Rch σ.N f i → Wid (exX σ.N o i) c) (hm : Wid (exF o F) m) (hroom : σ.N.length + c * σ.N.length ≤ 2147483647) :
    Calls Tryz.prog 94 #[.pointer (some ⟨A.a, 0, none⟩), .int .i64 f, v] w (SpRes w B S km A Mo σ (exF o F) (c * σ.N.length) m) := by
  have hlt := (h.ok.g f hf.1).1
  have e : (fun s => ev σ.N s f) = F := funext hf.2
  have hx := bddExists_any (c := c) ho h.sp.ar f ⟨hf.1, hlt⟩ h.ok.hok v hr hc (fun i h2 hrc => by
    rcases Nat.lt_or_ge (nd σ.N i).v 208 with h3 | h3
    · exact h3
    · exact absurd ((h.ok.g f hf.1).2.2.free (.inr h3)) (not_free h.ok.wf hlt hrc h2)) hW hroom
  refine hx.mono fun e' w' hres => h.op' hres (fun r N' ht => ?_) (exF_hangs (hf.hangs h.ok))
  obtain ⟨t1, t2, t3, t4, t5⟩ := ht
  have t2' : ∀ s, ev N' s r = exF o F s := fun s => by rw [t2]; unfold exX; rw [e]
  exact ⟨⟨t1, t2'⟩, t3, newL_wid t4 σ.H t5 (by rw [show (fun s => ev N' s r) = exF o F from funext t2']; exact hm)⟩
end
end Go.Proofs.YtbahehmfhjkgeaaGreat

/-
  Rename of the ends.
-/
namespace Go.Proofs.YtbahehmfhjkgeaaGreat
open Go Go.RowKit Go.ChangeMaps Go.MapKept Go.Maps Go.Lib Go.Sort

/-- What the variables are turned into, in the map. -/
noncomputable def renK (o p : Nat) : Nat → List (Value × Value)
  | 0 => []
  | k + 1 => putM (renK o p k) (.int .i32 ((2 * k + o : Nat) : Int)) (.int .i32 ((2 * k + p : Nat) : Int))
theorem renK_none (o p : Nat) : ∀ k j, k ≤ j → getM (renK o p k) (.int .i32 ((2 * j + o : Nat) : Int)) = none
  | 0, _, _ => rfl
  | k + 1, j, h => by
    show getM (putM _ _ _) _ = none
    rw [getM_put_other _ _ _ (by intro e; injection e with _ e; omega)]
    exact renK_none o p k j (by omega)
/-- 'm[key] = v' at a barrier. -/
theorem oper_mapAt {P : Program} {k : TypeId} {w : World} {b : Nat} {l : List (Value × Value)} {o : Oper} {a : Act} {R : Act → World → Prop} {Q : Exit → Act → World → Prop} (m x v : Operand) (t e : TypeId)
    (hop : o.op = Op.mapUpdate t m x v) (K : Keyed P k) (ht : P.underlying t = some (.map k e)) (hm : a.eval m = .map (some b)) (h : MapAt P k w b l) (key val : Value) (kl : Lit) (hx : a.eval x = key) (hv : a.eval v = val) (hkey : keyOf P k key = some kl)
    (hK : ∀ w', MapAt P k w' b (putM l key val) → w.grownBy w' (some b) → R (a.put o.dst undef) w') : o.wp P a (w := w) R Q := by
  obtain ⟨w', hrun, r1, r2⟩ := h.store K ht hkey val
  unfold Oper.wp
  simp [execOp, hop, hm, hx, hv, hrun, Result.andThen]
  exact hK w' r1 r2
/-- made is never asked: a terminal is done. -/
theorem low_made {fid : FuncId} {caps : Array Value} {B : Nat} {A : Blks} {V Mo : Nat} {N0 : List Nd} {H G : List Nat} {f0 c lim : Nat} {X : Nat → Fun} (en : ∀ (args : Array Value) (w : World), (callFunc fid args).run Tryz.prog w = .ok (.enter fid args) w) (hf : f0 < 2) :
    MadeOk fid caps B A V Mo N0 H G f0 c lim X (fun _ => True) :=
  ⟨en, fun _ _ _ _ _ _ => trivial, fun i lo hi N W h2 _ hr => absurd (hr.low hf) (by omega)⟩
set_option maxRecDepth 100000 in
set_option maxHeartbeats 400000 in
theorem renameLow_any {w : World} {B : Nat} {A : Blks} {Mo : Nat} {N : List Nd} {H G : List Nat} {o p : Nat} (ho : o < 2) (hp : p < 2) (hA : ArAt w B A 208 Mo N H G) (f : Nat) (hf : f ∈ G) (hf2 : f < 2) (hH : FOk N H)
    (v1 v2 : Value) (h1 : Rd w w.heap.size 1 v1 104 (icells (varsL o 104))) (h2 : Rd w w.heap.size 1 v2 104 (icells (varsL p 104))) :
    Calls Tryz.prog 95 #[A.val, .int .i64 f, v1, v2] w (OpRes w B A 208 Mo H G (fun r N' => r = f ∧ N' = N)) := by
  have hwf : WF N := by obtain ⟨_, h⟩ := hA; exact h.wf
  have hle : N.length ≤ 2147483647 := by obtain ⟨_, h⟩ := hA; exact h.le
  have two := hwf.two
  obtain ⟨P1, c1, rfl, hc1⟩ := h1.form
  obtain ⟨P2, c2, rfl, hc2⟩ := h2.form
  have f2 : (f : Int) ≤ 2147483646 := by omega
  have hb := below1 w (.cells #[.pointer (some ⟨A.a, 0, none⟩)] 108)
  have k0 := blk1 w (.cells #[.pointer (some ⟨A.a, 0, none⟩)] 108)
  have HA := Lib.hid hA
  have HR1 := Lib.hid h1
  have HR2 := Lib.hid h2
  have HB := Lib.hid hb
  have HK := Lib.hid k0
  have HF := Lib.hid hf
  have HH := Lib.hid hH
  clear hA h1 h2 hb k0 hf hH
  unfold Blks.val
  go_enter Tryz.func95, Tryz.ntmps95
  go_upto_region 1 with fail
  generalize w.alloc (.cells #[.pointer (some ⟨A.a, 0, none⟩)] 108) = w0 at *
  have hch := check_any ((HA.out.below HB.out).below (below1 w0 (.cells #[.int .i64 f] 3))) [f] w0.heap.size 1 (fun i x hi => by
    have h0 : i = 0 := by
      have := (List.getElem?_eq_some_iff.1 hi).1
      simp at this
      omega
    subst h0
    injection hi with hi
    subst hi
    rw [cell_of_row _ _ 0 _ _ (0, 0) (blk1 w0 (.cells #[.int .i64 f] 3))]; rfl) (fun x hx => by rw [List.mem_singleton.1 hx]; exact ⟨HF.out, by omega⟩) (by simp)
  unfold Blks.val at hch
  rw [List.length_singleton] at hch
  have HCH := Lib.hid hch
  have c0 := cell0 HK.out
  clear hch
  go_upto_region 2 with ((with_reducible refine HCH.out.mono ?_); rintro e w2 ⟨rfl, hb2⟩; have HB2 := Lib.hid ((below1 w0 (.cells #[.int .i64 f] 3)).trans (hb2.mono (below1 w0 (.cells #[.int .i64 f] 3)).size)); clear hb2)
  clear c0 HCH
  have HW2 := Lib.hid (HB.out.trans (HB2.out.mono HB.out.size))
  have hkn : ∀ (W : World), Below w.heap.size w W → ∀ (q : Nat) (P : Option Addr) (c : Nat), q < 2 → Rd w w.heap.size 1 (.slice P 104 c) 104 (icells (varsL q 104)) → Calls Tryz.prog 183 #[.pointer (some ⟨A.a, 0, none⟩), .slice P 104 c] W fun e w' => e = .returned (.bool true) ∧ Below W.heap.size W w' := fun W hW q P c hq hr => by
    have h := known_yes (HA.out.below hW) (varsL q 104) (.slice P 104 c) (by rw [varsL_len]; exact (hr.below hW).mono hW.size) (fun x hx => by
      obtain ⟨j, hj, rfl⟩ := List.mem_map.1 hx
      have := List.mem_range.1 hj
      omega) (by rw [varsL_len]; omega)
    unfold Blks.val at h
    exact h
  have HKN := Lib.hid hkn
  have c0 := cell0 (blk_below HB2.out HK.out)
  have HK1 := Lib.hid (HKN.out w2 HW2.out o P1 c1 ho HR1.out)
  clear hkn
  go_upto_region 6 with (first
    | ((with_reducible refine HK1.out.mono ?_); rintro e w3 ⟨rfl, hb3⟩; have HB3 := Lib.hid (HB2.out.trans (hb3.mono HB2.out.size)); have HW3 := Lib.hid (HW2.out.trans (hb3.mono HW2.out.size)); have c3 := cell0 (blk_below HB3.out HK.out); have HK2 := Lib.hid (HKN.out w3 HW3.out p P2 c2 hp HR2.out); clear hb3 c0)
    | ((with_reducible refine HK2.out.mono ?_); rintro e w4 ⟨rfl, hb4⟩; have HB4 := Lib.hid (HB3.out.trans (hb4.mono HB3.out.size)); have HW4 := Lib.hid (HW3.out.trans (hb4.mono HW3.out.size)); clear hb4 c3))
  have hmm := @run_makeMap Tryz.prog
  have hm0 := MapAt.made Tryz.prog 21 w4
  have hb5 := below2 w4 (.map #[] 0) (.cells #[.map (some w4.heap.size)] 284)
  obtain ⟨_, k5⟩ := blk2 w4 (.map #[] 0) (.cells #[.map (some w4.heap.size)] 284)
  have hm5 := hm0.same ((below1 (w4.alloc (.map #[] 0)) (.cells #[.map (some w4.heap.size)] 284)).block _ hm0.lt)
  go_upto_region 7 with fail
  have HL5 := Lib.hid (show MapAt Tryz.prog 21 ((w4.alloc (.map #[] 0)).alloc (.cells #[.map (some w4.heap.size)] 284)) w4.heap.size (renK o p 0) ∧ ((w4.alloc (.map #[] 0)).alloc (.cells #[.map (some w4.heap.size)] 284)).heap[w4.heap.size + 1]? = some (.cells #[.map (some w4.heap.size)] 284 (0, 0)) ∧ ((w4.alloc (.map #[] 0)).alloc (.cells #[.map (some w4.heap.size)] 284)).heap[w.heap.size]? = some (.cells #[.pointer (some ⟨A.a, 0, none⟩)] 108 (0, 0)) ∧ Below w.heap.size w ((w4.alloc (.map #[] 0)).alloc (.cells #[.map (some w4.heap.size)] 284)) from ⟨hm5, k5, blk_below hb5 (blk_below HB4.out HK.out), HW4.out.trans (hb5.mono HW4.out.size)⟩)
  have hz4 : w.heap.size < w4.heap.size := lt_of_block (blk_below HB4.out HK.out)
  clear hmm hm0 hm5 hb5 k5 HW2 HB2 HW3 HB3 HW4 HB4 HK1 HK2 HKN HB HK
  generalize (w4.alloc (.map #[] 0)).alloc (.cells #[.map (some w4.heap.size)] 284) = w5 at *
  generalize w4.heap.size = bm at *
  go_wp2
  go_loopw [43] (fun i wr => ∃ k : Nat, i = .int .i64 k ∧ k ≤ 104 ∧ Hid (MapAt Tryz.prog 21 wr bm (renK o p k) ∧ wr.heap[bm + 1]? = some (.cells #[.map (some bm)] 284 (0, 0)) ∧ wr.heap[w.heap.size]? = some (.cells #[.pointer (some ⟨A.a, 0, none⟩)] 108 (0, 0)) ∧ Below w.heap.size w wr)) (fun i _ => 104 - (intOf i).toNat)
  case atStart => exact ⟨0, rfl, by omega, HL5⟩
  case round =>
    obtain ⟨k, rfl, hk, HL⟩ := hrel
    by_cases hlt : k < 104
    · have hI : (k : Int) < 104 := by omega
      obtain ⟨b1, off1, c1', hv, _, hbB1, hcell1⟩ := HR1.out.pos (by omega)
      injection hv with hv1 hv2 hv3
      subst hv1 hv3
      clear hv2
      obtain ⟨b2, off2, c2', hv, _, hbB2, hcell2⟩ := HR2.out.pos (by omega)
      injection hv with hv1 hv2 hv3
      subst hv1 hv3
      clear hv2
      obtain ⟨y, hy⟩ : ∃ y, 2 * k + o = y := ⟨_, rfl⟩
      obtain ⟨z, hz⟩ : ∃ z, 2 * k + p = z := ⟨_, rfl⟩
      have e0 : wr.cell? ⟨b1, off1 + k, none⟩ = some (.int .i64 (y : Int)) := (HL.out.2.2.2.cell (p := ⟨b1, off1 + k, none⟩) hbB1).trans (hcell1 k _ (by rw [← hy]; simp [icells, varsL_get o 104 hlt]))
      have e1 : wr.cell? ⟨b2, off2 + k, none⟩ = some (.int .i64 (z : Int)) := (HL.out.2.2.2.cell (p := ⟨b2, off2 + k, none⟩) hbB2).trans (hcell2 k _ (by rw [← hz]; simp [icells, varsL_get p 104 hlt]))
      clear hcell1 hcell2
      have hyI : (y : Int) ≤ 2147483647 := by omega
      have hzI : (z : Int) ≤ 2147483647 := by omega
      have hky := key_i32 (a := (y : Int)) (by omega)
      have hl := HL.out.1.look i32_keyed Tryz.underlying284 (zero_i32 wr) true hky
      have hno := renK_none o p k k (Nat.le_refl _)
      rw [hy] at hno
      rw [hno] at hl
      have L1 : (Instr.lookup 284 (.map (some bm)) (.int .i32 y) true).run Tryz.prog wr = .ok (.tuple #[.int .i32 0, .bool false]) wr := hl
      have c5 := cell0 HL.out.2.1
      have HYZ := Lib.hid (And.intro hy hz)
      clear hl hno hy hz
      go_upto_region 13 with fail
      have hS : ∃ S : World → Prop, S = fun x => x.cell? ⟨bm + 1, 0, none⟩ = some (.map (some bm)) ∧ x.cell? ⟨b2, off2 + k, none⟩ = some (.int .i64 (z : Int)) := ⟨_, rfl⟩
      obtain ⟨S, hS⟩ := hS
      have hSI : ∀ x : World, x.cell? ⟨bm + 1, 0, none⟩ = some (.map (some bm)) → x.cell? ⟨b2, off2 + k, none⟩ = some (.int .i64 (z : Int)) → S x := fun x h g => by rw [hS]; exact ⟨h, g⟩
      have hSP : ∀ x : World, S x → x.cell? ⟨bm + 1, 0, none⟩ = some (.map (some bm)) ∧ x.cell? ⟨b2, off2 + k, none⟩ = some (.int .i64 (z : Int)) := fun x h => by rw [hS] at h; exact h
      have hdr : Below wr.heap.size wr { wr with drawn := wr.drawn + 1 } := ⟨rfl, rfl, rfl, Nat.le_refl _, fun _ _ => rfl⟩
      have d5 := (hdr.cell (p := ⟨bm + 1, 0, none⟩) (World.block_lt_of_cell? _ _ c5)).trans c5
      have d1 := (hdr.cell (p := ⟨b2, off2 + k, none⟩) (World.block_lt_of_cell? _ _ e1)).trans e1
      have hne : Nonempty (InW S) := ⟨⟨_, hSI _ d5 d1⟩⟩
      refine wp_region_mixS S [(0, false), (1, false), (2, false), (3, false), (4, false), (5, false), (6, false), (7, false), (8, true)] (by kernel_rfl) (by kernel_rfl) (hSI _ d5 d1) ?_
      have L5 : ∀ p : InW S, p.w.cell? ⟨bm + 1, 0, none⟩ = some (.map (some bm)) := fun p => (hSP _ p.h).1
      have L2 : ∀ p : InW S, p.w.cell? ⟨b2, off2 + k, none⟩ = some (.int .i64 (z : Int)) := fun p => (hSP _ p.h).2
      have HLD := Lib.hid (And.intro (HL.out.1.same (hdr.block _ HL.out.1.lt)) (And.intro (blk_below hdr HL.out.2.1) (And.intro (blk_below hdr HL.out.2.2.1) (HL.out.2.2.2.trans (hdr.mono HL.out.2.2.2.size)))))
      have HSI := Lib.hid hSI
      have HD5 := Lib.hid (And.intro d5 d1)
      clear hdr d5 d1 hSI hSP hS
      generalize { wr with drawn := wr.drawn + 1 } = V0 at *
      refine mix_take [0, 1, 2, 3, 4, 5, 6, 7] [_, _, _, _, _, _, _, _] rfl rfl ?_
      simp only [List.getElem_toArray, List.getElem_cons_zero, List.getElem_cons_succ]
      repeat (go_big_quiet_step (fail))
      refine wpQuiet_nil ?_
      clear L5 L2 hne
      refine mix_barS rfl (by rfl) ?_
      simp only [List.getElem_toArray, List.getElem_cons_zero, List.getElem_cons_succ]
      refine oper_mapAt _ _ _ 284 21 rfl i32_keyed Tryz.underlying284 rfl (show MapAt _ _ V0 _ _ from HLD.out.1) (.int .i32 y) (.int .i32 z) _ rfl rfl hky ?_
      intro V1 hm1 hg1
      have hoth : ∀ {g : Nat} {ob : Obj}, V0.heap[g]? = some ob → g ≠ bm → V1.heap[g]? = some ob := fun hk hn => (hg1.block _ (lt_of_block hk) (fun e => hn (by injection e))).trans hk
      have hbb : b2 < bm := Nat.lt_trans hbB2 hz4
      have d5 : V1.cell? ⟨bm + 1, 0, none⟩ = some (.map (some bm)) := cell0 (hoth HLD.out.2.1 (by omega))
      have d1 : V1.cell? ⟨b2, off2 + k, none⟩ = some (.int .i64 (z : Int)) := (World.cell?_of_block (hg1.block b2 (World.block_lt_of_cell? _ _ HD5.out.2) (fun e => by injection e with e; omega))).trans HD5.out.2
      refine ⟨S, HSI.out _ d5 d1, fun _ h => h, ?_⟩
      refine mix_end ?_
      have hmk : MapAt Tryz.prog 21 V1 bm (renK o p (k + 1)) := by
        show MapAt Tryz.prog 21 V1 bm (putM (renK o p k) (.int .i32 ((2 * k + o : Nat) : Int)) (.int .i32 ((2 * k + p : Nat) : Int)))
        rw [HYZ.out.1, HYZ.out.2]
        exact hm1
      have HLF := Lib.hid (show MapAt Tryz.prog 21 V1 bm (renK o p (k + 1)) ∧ V1.heap[bm + 1]? = some (.cells #[.map (some bm)] 284 (0, 0)) ∧ V1.heap[w.heap.size]? = some (.cells #[.pointer (some ⟨A.a, 0, none⟩)] 108 (0, 0)) ∧ Below w.heap.size w V1 from ⟨hmk, hoth HLD.out.2.1 (by omega), hoth HLD.out.2.2.1 (by omega), HLD.out.2.2.2.grown hg1 HLD.out.2.2.2.size (fun g hg => by injection hg with hg; omega)⟩)
      clear hmk hoth d5 d1 hm1 hg1
      go_wp2
      exact ⟨⟨k + 1, by go_num, by omega, HLF⟩, by simp only [intOf]; omega⟩
    · obtain rfl : k = 104 := by omega
      have hI : ¬ (104 : Int) < 104 := by omega
      have c0 := cell0 HL.out.2.2.1
      go_upto_region 15 with fail
      clear c0
      have hdr : Below wr.heap.size wr { wr with drawn := wr.drawn + 1 } := ⟨rfl, rfl, rfl, Nat.le_refl _, fun _ _ => rfl⟩
      have hwd := HL.out.2.2.2.trans (hdr.mono HL.out.2.2.2.size)
      have hAD := HA.out.below hwd
      have ha9 : ({ wr with drawn := wr.drawn + 1 } : World).heap[w.heap.size]? = some (.cells #[.pointer (some ⟨A.a, 0, none⟩)] 108 (0, 0)) := HL.out.2.2.1
      have hfa := HA.out.foreign_new hwd (Nat.le_refl _) (lt_of_block ha9)
      have hea := bddEach_any (w := { wr with drawn := wr.drawn + 1 }) (c := 0) (lim := 0) (X := fun i _ => i == 1) f (low_made (fid := 185) (caps := #[.pointer (some ⟨bm + 1, 0, none⟩), .pointer (some ⟨w.heap.size, 0, none⟩)]) (fun _ _ => rfl) hf2) hAD trivial (Nat.zero_le _) (fun _ => rfl) (fun _ => rfl) (by omega) (by omega)
      unfold Blks.val at hea
      obtain ⟨S, hS⟩ : ∃ S : World → Prop, S = fun x => x.heap[w.heap.size]? = some (.cells #[.pointer (some ⟨A.a, 0, none⟩)] 108 (0, 0)) := ⟨_, rfl⟩
      have hSI : ∀ x : World, x.heap[w.heap.size]? = some (.cells #[.pointer (some ⟨A.a, 0, none⟩)] 108 (0, 0)) → S x := fun x h => by rw [hS]; exact h
      have hSP : ∀ x : World, S x → x.heap[w.heap.size]? = some (.cells #[.pointer (some ⟨A.a, 0, none⟩)] 108 (0, 0)) := fun x h => by rw [hS] at h; exact h
      have hne : Nonempty (InW S) := ⟨⟨_, hSI _ ha9⟩⟩
      refine wp_region_mixS S [(0, false), (1, false), (2, false), (3, false), (4, true), (5, true), (6, true), (7, false), (8, false), (9, false), (10, false)] (by kernel_rfl) (by kernel_rfl) (hSI _ ha9) ?_
      have L0 : ∀ p : InW S, p.w.cell? ⟨w.heap.size, 0, none⟩ = some (.pointer (some ⟨A.a, 0, none⟩)) := fun p => cell0 (hSP _ p.h)
      have HKD := Lib.hid (Kept.of_below HA.out.a_lt hwd)
      have HFA := Lib.hid (And.intro ha9 hfa)
      have HEA := Lib.hid hea
      have HSI := Lib.hid hSI
      clear hdr hwd hAD ha9 hfa hea hSI hSP hS
      generalize { wr with drawn := wr.drawn + 1 } = V0 at *
      refine mix_take [0, 1, 2, 3] [_, _, _, _] rfl rfl ?_
      simp only [List.getElem_toArray, List.getElem_cons_zero, List.getElem_cons_succ]
      repeat (go_big_quiet_step (fail))
      refine wpQuiet_nil ?_
      have HN := Lib.hid hne
      clear L0 hne
      refine mix_barS rfl (by rfl) ?_
      simp only [List.getElem_toArray, List.getElem_cons_zero, List.getElem_cons_succ]
      go_simp
      refine ⟨S, HSI.out _ HFA.out.1, fun _ h => h, ?_⟩
      refine mix_barS rfl (by rfl) ?_
      simp only [List.getElem_toArray, List.getElem_cons_zero, List.getElem_cons_succ]
      go_simp
      refine HEA.out.mono ?_
      rintro e V1 ⟨r, N', rfl, hA1, he1, hr1, hs1, hl1, hk1⟩
      have hw1 : WF N' := by obtain ⟨_, h⟩ := hA1; exact h.wf
      have hgi := give_any r hA1 hr1 (ext_ok he1 HH.out)
      unfold Blks.val at hgi
      have HGI := Lib.hid hgi
      have hNN : N' = N := by
        obtain ⟨E, rfl⟩ := he1
        rw [List.length_append, Nat.zero_mul] at hl1
        have : E = [] := List.eq_nil_of_length_eq_zero (by omega)
        rw [this, List.append_nil]
      subst hNN
      have hrf : r = f := hw1.canon (r + f) r f (by omega) (by omega) hr1 (by omega) (fun s => by
        rw [hs1]
        have : f = 0 ∨ f = 1 := by omega
        rcases this with rfl | rfl
        · rfl
        · rfl)
      have HT := Lib.hid hrf
      have HK1 := Lib.hid (HKD.out.trans hk1)
      have HF1 := Lib.hid (And.intro ((hk1.same _ HFA.out.2).1.trans HFA.out.1) (hk1.same _ HFA.out.2).2)
      clear hA1 hs1 hk1 hgi HEA hrf
      refine ⟨S, HSI.out _ HF1.out.1, fun _ h => h, ?_⟩
      refine mix_barS rfl (by rfl) ?_
      simp only [List.getElem_toArray, List.getElem_cons_zero, List.getElem_cons_succ]
      go_simp
      refine HGI.out.mono ?_
      rintro e V2 hgv
      have HGV := Lib.hid hgv
      have hS2 : V2.heap[w.heap.size]? = some (.cells #[.pointer (some ⟨A.a, 0, none⟩)] 108 (0, 0)) := by
        rcases hgv with ⟨_, _, _, hk⟩ | ⟨_, _, _, hk⟩
        · exact (hk.same _ HF1.out.2).1.trans HF1.out.1
        · exact (hk.same _ HF1.out.2).1.trans HF1.out.1
      obtain ⟨q, ec, rfl⟩ := hgv.form
      refine ⟨S, HSI.out _ hS2, fun _ h => h, ?_⟩
      clear hgv hS2
      have hne2 := HN.out
      refine mix_take [7, 8, 9, 10] [_, _, _, _] rfl rfl ?_
      simp only [List.getElem_toArray, List.getElem_cons_zero, List.getElem_cons_succ]
      repeat (go_big_quiet_step (fail))
      refine wpQuiet_nil ?_
      refine mix_end ?_
      clear hne2
      go_wp2
      go_ret2
      exact ⟨r, N', V1, ⟨HT.out, rfl⟩, hw1, hr1, HK1.out, HGV.out⟩
end Go.Proofs.YtbahehmfhjkgeaaGreat

/-
  Walks over the filter's layer: Decides; the program's and the reference's (written by wip/gen/genfilt6.py).
-/
namespace Go.Proofs.YtbahehmfhjkgeaaGreat
open Go Go.RowKit Go.Sort

/-- Which rule decides. -/
def decN (L : List RuleV) (h : HeaderV) : Int := idxP (fun r => fitsB r h) L
/-- .. 0 of a filter that is refused. -/
def decR (L : List RuleV) (h : HeaderV) : Int := if filtE L = 0 then decN L h else 0
end Go.Proofs.YtbahehmfhjkgeaaGreat

/-
  Walks over the filter's layer: Permits, the rules held against each other, the law's own probe (written by wip/gen/genfilt7.py).
-/
namespace Go.Proofs.YtbahehmfhjkgeaaGreat
open Go Go.RowKit Go.Sort

/-- What rule i says; false of none. -/
def permAt (L : List RuleV) (i : Int) : Bool := if 0 ≤ i then (L[i.toNat]?.map (·.permit)).getD false else false
def permN (L : List RuleV) (h : HeaderV) : Bool := permAt L (decN L h)
def permB (L : List RuleV) (h : HeaderV) : Bool := if filtE L = 0 then permN L h else false
theorem eqPref (a n : Int) (d : Nat) (w : World) : (Op.equalIn (d + 1 + 1) 39 (.agg #[.int .u32 a, .int .i64 n]) (.agg #[.int .u32 a, .int .i64 n])).run Tryz.prog w = .ok true w := by
  have hS : Tryz.prog.underlying 39 = some (.struct (Tryz.prog.fieldsOf 39)) := by kernel_rfl
  have hp : Tryz.prog.stoodInHeld 39 = false := by kernel_rfl
  have a1 := Tryz.underlying37
  have a2 := Tryz.isAgg37
  have a3 := Tryz.sizeOf37
  have b1 := Tryz.underlying3
  have b2 := Tryz.isAgg3
  have b3 := Tryz.sizeOf3
  rw [run_equalIn_agg w (d + 1) 39 _ _ hS hp]
  simp only [Program.fieldsOf, Tryz.underlying39]
  go_simp
theorem eqSpan (a n : Int) (d : Nat) (w : World) : (Op.equalIn (d + 1 + 1) 41 (.agg #[.int .u32 a, .int .u32 n]) (.agg #[.int .u32 a, .int .u32 n])).run Tryz.prog w = .ok true w := by
  have hS : Tryz.prog.underlying 41 = some (.struct (Tryz.prog.fieldsOf 41)) := by kernel_rfl
  have hp : Tryz.prog.stoodInHeld 41 = false := by kernel_rfl
  have a1 := Tryz.underlying36
  have a2 := Tryz.isAgg36
  have a3 := Tryz.sizeOf36
  rw [run_equalIn_agg w (d + 1) 41 _ _ hS hp]
  simp only [Program.fieldsOf, Tryz.underlying41]
  go_simp
/-- '!=' says false of a rule and itself. -/
@[go_sem] theorem neqRule (r : RuleV) (w : World) : (binOp .neq 43 (.agg #[.bool r.permit, .int .i64 r.proto, .int .u32 r.sa, .int .i64 r.sn, .int .u32 r.da, .int .i64 r.dn, .int .u32 r.sl, .int .u32 r.sh, .int .u32 r.dl, .int .u32 r.dh]) (.agg #[.bool r.permit, .int .i64 r.proto, .int .u32 r.sa, .int .i64 r.sn, .int .u32 r.da, .int .i64 r.dn, .int .u32 r.sl, .int .u32 r.sh, .int .u32 r.dl, .int .u32 r.dh])).run Tryz.prog w = .ok (.bool false) w := by
  have hS : Tryz.prog.underlying 43 = some (.struct (Tryz.prog.fieldsOf 43)) := by kernel_rfl
  have hp : Tryz.prog.stoodInHeld 43 = false := by kernel_rfl
  have b1 := Tryz.underlying3
  have b2 := Tryz.isAgg3
  have b3 := Tryz.sizeOf3
  have c1 := Tryz.underlying4
  have c2 := Tryz.isAgg4
  have c3 := Tryz.sizeOf4
  have d2 := Tryz.isAgg39
  have d3 := Tryz.sizeOf39
  have e2 := Tryz.isAgg41
  have e3 := Tryz.sizeOf41
  rw [run_neq_struct, show (10000 : Nat) = 9997 + 1 + 1 + 1 from rfl, run_equalIn_agg w (9997 + 1 + 1) 43 _ _ hS hp]
  generalize 9997 = d
  have E1 := fun a n w => eqPref a n d w
  have E2 := fun a n w => eqSpan a n d w
  simp only [Program.fieldsOf, Tryz.underlying43]
  go_simp

end Go.Proofs.YtbahehmfhjkgeaaGreat

/-
  Walks over the filter's layer: the rules held against each other, the law's own probe (written by wip/gen/genfilt8.py).
-/
namespace Go.Proofs.YtbahehmfhjkgeaaGreat
open Go Go.RowKit Go.Sort

def pr0 : RuleV := ⟨true, 6, 0, 0, 0, 0, 0, 65535, 80, 80, by omega, by omega, by omega, by omega, by omega, by omega, by omega⟩
def pr1 : RuleV := ⟨false, -1, 0, 0, 0, 0, 0, 65535, 0, 65535, by omega, by omega, by omega, by omega, by omega, by omega, by omega⟩
def ph0 : HeaderV := ⟨0, 0, 6, 0, 80, by omega, by omega, by omega, by omega, by omega⟩
def ph1 : HeaderV := ⟨0, 0, 6, 0, 81, by omega, by omega, by omega, by omega, by omega⟩
end Go.Proofs.YtbahehmfhjkgeaaGreat

/-
  The walk of the law FilterDecides (written by wip/gen/genlawfd.py).
-/
namespace Go.Proofs.YtbahehmfhjkgeaaGreat
open Go Go.RowKit Go.Sort

def HeaderV.enc (h : HeaderV) : List Value := [.int .u32 h.src, .int .u32 h.dst, .int .u8 h.proto, .int .u16 h.sp, .int .u16 h.dp]
theorem header_len (h : HeaderV) : h.enc.length = 5 := rfl
def hcells (L : List HeaderV) : List Value := L.flatMap HeaderV.enc
theorem hcell {L : List HeaderV} {k i : Nat} {h : HeaderV} {v : Value} (hr : L[k]? = some h) (hv : h.enc[i]? = some v) : (hcells L)[k * 5 + i]? = some v := flat_get HeaderV.enc 5 header_len L k i h v hr hv
/-- A slice cut at its end. -/
theorem Rd.take {α : Type} {enc : α → List Value} {k : Nat} (hk : ∀ x, (enc x).length = k) {w : World} {B : Nat} {A : Option Addr} {c n m : Nat} {L : List α} (h : Rd w B k (.slice A n c) n (L.flatMap enc)) (hn : L.length = n) (hm : m ≤ n) :
    Rd w B k (.slice A m c) m ((L.take m).flatMap enc) := by
  obtain ⟨A', c', hv, hc, hl, hp⟩ := h
  injection hv with h1 h2 h3
  subst h1 h3
  have hlen : (L.take m).length = m := by simp; omega
  refine ⟨A, c, rfl, by omega, by rw [flat_len enc k hk, hlen], fun hm0 => ?_⟩
  obtain ⟨b, off, hA, hB, hcell⟩ := hp (by omega)
  refine ⟨b, off, hA, hB, fun j u hu => hcell j u ?_⟩
  have e : L.flatMap enc = (L.take m).flatMap enc ++ (L.drop m).flatMap enc := by rw [← List.flatMap_append, List.take_append_drop]
  rw [e, List.getElem?_append_left (List.getElem?_eq_some_iff.1 hu).1]
  exact hu

/-- What the law's own memory holds behind its first statements: the filter as it was handed in (cut), its copy, the rule. -/
def FDst (nm : ByteArray) (M : List RuleV) (A2 : Option Addr) (c0 : Nat) (A3 : Option Addr) (c3 : Nat) (r : RuleV) (w : World) (g : Nat) (W : World) : Prop :=
  W.heap[g]? = some (.cells #[.string nm, .slice A3 M.length c3] 24 (0, 0)) ∧ Rd W W.heap.size 10 (.slice A3 M.length c3) M.length (rcells M) ∧ W.heap[w.heap.size]? = some (.cells #[.string nm, .slice A2 M.length c0] 24 (0, 0)) ∧ W.heap[w.heap.size + 1]? = some (.cells #[.bool r.permit, .int .i64 r.proto, .int .u32 r.sa, .int .i64 r.sn, .int .u32 r.da, .int .i64 r.dn, .int .u32 r.sl, .int .u32 r.sh, .int .u32 r.dl, .int .u32 r.dh] 43 (0, 0)) ∧ Rd W w.heap.size 10 (.slice A2 M.length c0) M.length (rcells M) ∧ Below w.heap.size w W
section
variable {nm : ByteArray} {M : List RuleV} {A2 : Option Addr} {c0 : Nat} {A3 : Option Addr} {c3 : Nat} {r : RuleV} {w : World} {g : Nat} {W W' : World}
theorem FDst.next (h : FDst nm M A2 c0 A3 c3 r w g W) (hb : Below W.heap.size W W') : FDst nm M A2 c0 A3 c3 r w g W' := by
  obtain ⟨h1, h2, h3, h4, h5, h6⟩ := h
  exact ⟨blk_below hb h1, (h2.below hb).mono hb.size, blk_below hb h3, blk_below hb h4, h5.below (hb.mono h6.size), h6.trans (hb.mono h6.size)⟩
theorem FDst.own (h : FDst nm M A2 c0 A3 c3 r w g W) : W.cell? ⟨g, 0, none⟩ = some (.string nm) ∧ W.cell? ⟨g, 1, none⟩ = some (.slice A3 M.length c3) := ⟨(two_cells h.1).1, (two_cells h.1).2.1⟩
theorem FDst.its (h : FDst nm M A2 c0 A3 c3 r w g W) : W.cell? ⟨w.heap.size, 0, none⟩ = some (.string nm) ∧ W.cell? ⟨w.heap.size, 1, none⟩ = some (.slice A2 M.length c0) := ⟨(two_cells h.2.2.1).1, (two_cells h.2.2.1).2.1⟩
theorem FDst.rule (h : FDst nm M A2 c0 A3 c3 r w g W) : W.cell? ⟨w.heap.size + 1, 0, none⟩ = some (.bool r.permit) ∧ W.cell? ⟨w.heap.size + 1, 1, none⟩ = some (.int .i64 r.proto) ∧ W.cell? ⟨w.heap.size + 1, 2, none⟩ = some (.int .u32 r.sa) ∧ W.cell? ⟨w.heap.size + 1, 3, none⟩ = some (.int .i64 r.sn) ∧ W.cell? ⟨w.heap.size + 1, 4, none⟩ = some (.int .u32 r.da) ∧ W.cell? ⟨w.heap.size + 1, 5, none⟩ = some (.int .i64 r.dn) ∧ W.cell? ⟨w.heap.size + 1, 6, none⟩ = some (.int .u32 r.sl) ∧ W.cell? ⟨w.heap.size + 1, 7, none⟩ = some (.int .u32 r.sh) ∧ W.cell? ⟨w.heap.size + 1, 8, none⟩ = some (.int .u32 r.dl) ∧ W.cell? ⟨w.heap.size + 1, 9, none⟩ = some (.int .u32 r.dh) :=
  ⟨cell_of_row W (w.heap.size + 1) 0 _ _ (0, 0) h.2.2.2.1, cell_of_row W (w.heap.size + 1) 1 _ _ (0, 0) h.2.2.2.1, cell_of_row W (w.heap.size + 1) 2 _ _ (0, 0) h.2.2.2.1, cell_of_row W (w.heap.size + 1) 3 _ _ (0, 0) h.2.2.2.1, cell_of_row W (w.heap.size + 1) 4 _ _ (0, 0) h.2.2.2.1, cell_of_row W (w.heap.size + 1) 5 _ _ (0, 0) h.2.2.2.1, cell_of_row W (w.heap.size + 1) 6 _ _ (0, 0) h.2.2.2.1, cell_of_row W (w.heap.size + 1) 7 _ _ (0, 0) h.2.2.2.1, cell_of_row W (w.heap.size + 1) 8 _ _ (0, 0) h.2.2.2.1, cell_of_row W (w.heap.size + 1) 9 _ _ (0, 0) h.2.2.2.1⟩
theorem FDst.rd (h : FDst nm M A2 c0 A3 c3 r w g W) : Rd W W.heap.size 10 (.slice A3 M.length c3) M.length (rcells M) := h.2.1
theorem FDst.bel (h : FDst nm M A2 c0 A3 c3 r w g W) : Below w.heap.size w W := h.2.2.2.2.2
theorem FDst.lt (h : FDst nm M A2 c0 A3 c3 r w g W) : g < W.heap.size ∧ w.heap.size < W.heap.size ∧ w.heap.size + 1 < W.heap.size := ⟨lt_of_block h.1, lt_of_block h.2.2.1, lt_of_block h.2.2.2.1⟩
end

end Go.Proofs.YtbahehmfhjkgeaaGreat

/-
  Walks over the layer of rewrites: filters by their names (written by wip/gen/genrw1.py).
-/
namespace Go.Proofs.YtbahehmfhjkgeaaGreat
open Go Go.RowKit Go.Sort

/-- A filter as it lies in a slice: its name, the value of its rules, the rules. -/
structure FiltV where
  nm : ByteArray
  v : Value
  L : List RuleV
instance : Inhabited FiltV := ⟨⟨ByteArray.empty, .slice none 0 0, []⟩⟩
def FiltV.enc (f : FiltV) : List Value := [.string f.nm, f.v]
def fcells (L : List FiltV) : List Value := L.flatMap FiltV.enc
/-- The filters of a slice, in a world. -/
def FsAt (W : World) (B : Nat) (v : Value) (Fs : List FiltV) : Prop :=
  Rd W B 2 v Fs.length (fcells Fs) ∧ ∀ f ∈ Fs, Rd W B 10 f.v f.L.length (rcells f.L) ∧ f.L.length * 64 ≤ 140737488355328
theorem FsAt.below {W W' : World} {B : Nat} {v : Value} {Fs : List FiltV} (h : FsAt W B v Fs) (hb : Below B W W') : FsAt W' B v Fs := ⟨h.1.below hb, fun f hf => ⟨(h.2 f hf).1.below hb, (h.2 f hf).2⟩⟩
theorem FsAt.mono {W : World} {B B' : Nat} {v : Value} {Fs : List FiltV} (h : FsAt W B v Fs) (hb : B ≤ B') : FsAt W B' v Fs := ⟨h.1.mono hb, fun f hf => ⟨(h.2 f hf).1.mono hb, (h.2 f hf).2⟩⟩
theorem FsAt.next {W W' : World} {v : Value} {Fs : List FiltV} (h : FsAt W W.heap.size v Fs) (hb : Below W.heap.size W W') : FsAt W' W'.heap.size v Fs := (h.below hb).mono hb.size

def hasNm (nm : ByteArray) (f : FiltV) : Bool := f.nm.toList == nm.toList
/-- The first filter of a name. -/
def fnd (Fs : List FiltV) (nm : ByteArray) : Option FiltV := if 0 ≤ idxP (hasNm nm) Fs then Fs[(idxP (hasNm nm) Fs).toNat]? else none
def fndNm (Fs : List FiltV) (nm : ByteArray) : ByteArray := match fnd Fs nm with | some f => f.nm | none => ByteArray.empty
def fndL (Fs : List FiltV) (nm : ByteArray) : List RuleV := match fnd Fs nm with | some f => f.L | none => []
def fndB (Fs : List FiltV) (nm : ByteArray) : Bool := (fnd Fs nm).isSome

def NewAt (base n : Nat) (A : Option Addr) : Prop := 0 < n → ∃ b off, A = some ⟨b, off, none⟩ ∧ base ≤ b
theorem NewAt.mono {base base' n : Nat} {A : Option Addr} (h : NewAt base n A) (hb : base' ≤ base) : NewAt base' n A := fun hn => by
  obtain ⟨b, off, hA, h1⟩ := h hn
  exact ⟨b, off, hA, by omega⟩
/-- What a call that names a filter gives. -/
def NamedPost (nm : ByteArray) (L : List RuleV) (b : Bool) (w : World) (e : Ending) (w' : World) : Prop :=
  ∃ A c, e = .returned (.tuple #[.agg #[.string nm, .slice A L.length c], .bool b]) ∧ Rd w' w'.heap.size 10 (.slice A L.length c) L.length (rcells L) ∧ Below w.heap.size w w' ∧ NewAt w.heap.size L.length A

theorem Rd.far {w : World} {B k n c base : Nat} {A : Option Addr} {xs : List Value} (h : Rd w B k (.slice A n c) n xs) (hA : NewAt base n A) {p : Addr} (hp : p.block < base) (u : Value) : Rd (w.setCell p u) B k (.slice A n c) n xs := by
  obtain ⟨A', c', hv, hc, hl, hq⟩ := h
  injection hv with h1 _ h3
  subst h1 h3
  refine ⟨A, c, rfl, hc, hl, fun hn => ?_⟩
  obtain ⟨b, off, hA', hB, hcell⟩ := hq hn
  obtain ⟨b', off', hA2, hb⟩ := hA hn
  rw [hA'] at hA2
  injection hA2 with hA2
  injection hA2 with hA2 hA3
  exact ⟨b, off, hA', hB, fun j v hv => (World.cell?_of_block (w := w) (Below.heap_setCell w p u b (by omega))).trans (hcell j v hv)⟩
def ClonePost (L : List RuleV) (w : World) (e : Ending) (w' : World) : Prop :=
  ∃ A c, e = .returned (.slice A L.length c) ∧ Rd w' w'.heap.size 10 (.slice A L.length c) L.length (rcells L) ∧ Below w.heap.size w w' ∧ NewAt w.heap.size L.length A
end Go.Proofs.YtbahehmfhjkgeaaGreat

/-
  Walks over the layer of rewrites: filters by their names, the second text (written by wip/gen/genrw2.py).
-/
namespace Go.Proofs.YtbahehmfhjkgeaaGreat
open Go Go.RowKit Go.Sort

def allR : RuleV := ⟨true, -1, 0, 0, 0, 0, 0, 65535, 0, 65535, by omega, by omega, by omega, by omega, by omega, by omega, by omega⟩
/-- .. of a rewrite's name: none: all. -/
def namNm (Fs : List FiltV) (nm : ByteArray) : ByteArray := if nm.toList = [] then ByteArray.empty else fndNm Fs nm
def namL (Fs : List FiltV) (nm : ByteArray) : List RuleV := if nm.toList = [] then [allR] else fndL Fs nm
def namB (Fs : List FiltV) (nm : ByteArray) : Bool := if nm.toList = [] then true else fndB Fs nm

end Go.Proofs.YtbahehmfhjkgeaaGreat

/-
  Walks over the layer of rewrites: Check, the program's and the reference's (written by wip/gen/genrw3.py).
-/
namespace Go.Proofs.YtbahehmfhjkgeaaGreat
open Go Go.RowKit Go.Sort

structure RewV where
  dest : Bool
  nm : ByteArray
  too : Int
  hto : 0 ≤ too ∧ too < 4294967296
instance : Inhabited RewV := ⟨⟨false, ByteArray.empty, 0, by omega⟩⟩
def RewV.enc (x : RewV) : List Value := [.bool x.dest, .string x.nm, .int .u32 x.too]
def wcells (L : List RewV) : List Value := L.flatMap RewV.enc
/-- The refusal of one rewrite. -/
def errX (Fs : List FiltV) (x : RewV) : Int := if namB Fs x.nm = false then 120 else if filtE (namL Fs x.nm) = 0 then 0 else 121
def chkE (Fs : List FiltV) : List RewV → Int
  | [] => 0
  | x :: r => if errX Fs x = 0 then chkE Fs r else errX Fs x
def rwE (Fs : List FiltV) (l : List RewV) : Int := if 256 < l.length then 1 else chkE Fs l
end Go.Proofs.YtbahehmfhjkgeaaGreat

/-
  Joined texts: Tg4, Fr7, Fr8, Ln1, Ln2, Tg5, Tg6, Tg7, Tg8, Ln3, Ln4.
-/
import Derived.Test.YthhcaoljejifeaaGreatMLintRewrites11
import Derived.Test.YthhcaoljejifeaaGreatMLintRewrites12
import Derived.Test.YthhcaoljejifeaaGreatMLintRewrites10
import Derived.Test.YthhcaoljejifeaaGreatMLintRewrites3
import Derived.Deep.DeepCutAuto
import Derived.Test.YthhcaoljejifeaaGreatMLintRewrites9
import Derived.Test.YthhcaoljejifeaaGreatMLintRewrites1
/-
  What filters permit, as sets and header by header; functions that hang on rules alone; no program.
-/
namespace Go.Proofs.YthhcaoljejifeaaGreat
open Go Go.RowKit Go.ChangeMaps Go.MapKept Go.Maps Go.Lib Go.Sort

/-- A header's bits as values of the variables. -/
def bitH (h : HeaderV) (i : Nat) : Bool :=
  if i < 32 then h.src.toNat.testBit (31 - i) else if i < 64 then h.dst.toNat.testBit (63 - i) else if i < 72 then h.proto.toNat.testBit (71 - i) else if i < 88 then h.sp.toNat.testBit (87 - i) else h.dp.toNat.testBit (103 - i)
def hS (h : HeaderV) : Nat → Bool := fun v => bitH h (v / 2)
theorem valF_bits {a n x : Nat} {s : Nat → Bool} (hs : ∀ j, j < n → s (2 * (a + j)) = x.testBit (n - 1 - j)) : ∀ m, m ≤ n → valF a s m = x / 2 ^ (n - m) % 2 ^ m
  | 0, _ => by simp [valF, Nat.mod_one]
  | m + 1, hm => by
    have ih := valF_bits hs m (by omega)
    have e : x / 2 ^ (n - m) = x / 2 ^ (n - (m + 1)) / 2 := by
      rw [Nat.div_div_eq_div_mul, ← Nat.pow_succ, show (n - (m + 1)).succ = n - m by omega]
    have hb : (if s (2 * (a + m)) then 1 else 0) = x / 2 ^ (n - (m + 1)) % 2 := by
      rw [hs m (by omega), Nat.testBit_eq_decide_div_mod_eq, show n - 1 - m = n - (m + 1) by omega]
      have := Nat.mod_two_eq_zero_or_one (x / 2 ^ (n - (m + 1)))
      rcases this with h | h <;> simp [h]
    show 2 * valF a s m + _ = _
    rw [hb, ih, e]
    generalize x / 2 ^ (n - (m + 1)) = y
    have h1 := Nat.div_add_mod y 2
    have h2 : y % 2 ^ (m + 1) = 2 * (y / 2 % 2 ^ m) + y % 2 := by
      rw [Nat.pow_succ, Nat.mul_comm, Nat.mod_mul]
      omega
    omega
theorem valF_field {a n x : Nat} {s : Nat → Bool} (hs : ∀ j, j < n → s (2 * (a + j)) = x.testBit (n - 1 - j)) (hx : x < 2 ^ n) : valF a s n = x := by
  rw [valF_bits hs n (Nat.le_refl _), Nat.sub_self, Nat.pow_zero, Nat.div_one, Nat.mod_eq_of_lt hx]
theorem hS_at (h : HeaderV) (i : Nat) : hS h (2 * i) = bitH h i := by
  unfold hS
  rw [Nat.mul_div_cancel_left i (by decide : 0 < 2)]
theorem hS_fields (h : HeaderV) : valF 0 (hS h) 32 = h.src.toNat ∧ valF 32 (hS h) 32 = h.dst.toNat ∧ valF 64 (hS h) 8 = h.proto.toNat ∧ valF 72 (hS h) 16 = h.sp.toNat ∧ valF 88 (hS h) 16 = h.dp.toNat := by
  have b1 := h.hsrc
  have b2 := h.hdst
  have b3 := h.hproto
  have b4 := h.hsp
  have b5 := h.hdp
  refine ⟨valF_field (fun j hj => ?_) (by omega), valF_field (fun j hj => ?_) (by omega), valF_field (fun j hj => ?_) (by omega), valF_field (fun j hj => ?_) (by omega), valF_field (fun j hj => ?_) (by omega)⟩
  · rw [hS_at]; unfold bitH; rw [if_pos (by omega)]; congr 1; omega
  · rw [hS_at]; unfold bitH; rw [if_neg (by omega), if_pos (by omega)]; congr 1; omega
  · rw [hS_at]; unfold bitH; rw [if_neg (by omega), if_neg (by omega), if_pos (by omega)]; congr 1; omega
  · rw [hS_at]; unfold bitH; rw [if_neg (by omega), if_neg (by omega), if_neg (by omega), if_pos (by omega)]; congr 1; omega
  · rw [hS_at]; unfold bitH; rw [if_neg (by omega), if_neg (by omega), if_neg (by omega), if_neg (by omega)]; congr 1; omega
theorem in_top {x a n : Int} (hx : 0 ≤ x) (ha : 0 ≤ a) (hc : chk a n = 0) : (x.toNat / 2 ^ (32 - n.toNat) == a.toNat / 2 ^ (32 - n.toNat)) = inB x a n := by
  obtain ⟨h0, h1, h2⟩ := chk_ok hc
  rw [sz_nat] at h2
  unfold inB
  rw [sz_nat]
  obtain ⟨X, rfl⟩ := Int.eq_ofNat_of_zero_le hx
  obtain ⟨Y, rfl⟩ := Int.eq_ofNat_of_zero_le ha
  have hp := Nat.two_pow_pos (32 - n.toNat)
  generalize 2 ^ (32 - n.toNat) = d at *
  have h3 : Y % d = 0 := by omega
  have h4 : Y = d * (Y / d) := by have := Nat.div_add_mod Y d; omega
  have e : (X / d = Y / d) ↔ (chk (Y : Int) n = 0 ∧ (Y : Int) ≤ X ∧ (X : Int) < Y + d) := by
    constructor
    · intro h
      have h5 := Nat.div_add_mod X d
      have h6 := Nat.mod_lt X hp
      rw [h, ← h4] at h5
      exact ⟨hc, by omega, by omega⟩
    · rintro ⟨_, h5, h6⟩
      obtain ⟨k, hk⟩ : ∃ k, X = Y + k := ⟨X - Y, by omega⟩
      rw [hk, h4, Nat.mul_add_div hp, Nat.div_eq_of_lt (show k < d by omega), Nat.mul_div_cancel_left _ hp, Nat.add_zero]
  show (X / d == Y / d) = _
  rw [Bool.eq_iff_iff, beq_iff_eq, decide_eq_true_eq]
  exact e
theorem ruleF_hd {r : RuleV} (ok : RuleOk r) (h : HeaderV) : ruleF r (hS h) = fitsB r h := by
  obtain ⟨e1, e2, e3, e4, e5⟩ := hS_fields h
  have h4 : 4 ≤ asksN r := by unfold asksN; split <;> omega
  have b3 := h.hproto
  have b4 := h.hsp
  have b5 := h.hdp
  have q1 := ok.p
  have c1 := r.hsl
  have c2 := r.hdl
  have o3 := ok.sp
  have o4 := ok.dp
  unfold ruleF
  rw [← rbx_eq ok (Nat.le_refl _)]
  unfold boxP fitsB
  rw [e1, e2, e3, e4, e5]
  have s1 := in_top h.hsrc.1 r.hsa.1 ok.s.1
  have s2 := in_top h.hdst.1 r.hda.1 ok.d.1
  have pr : ((rbx r (asksN r)).any || h.proto.toNat == (rbx r (asksN r)).v) = (decide (r.proto = -1) || decide (r.proto = h.proto)) := by
    show (decide (¬ 5 ≤ asksN r) || h.proto.toNat == r.proto.toNat) = _
    unfold asksN
    by_cases hp : 0 ≤ r.proto
    · rw [if_pos hp, decide_eq_false (by omega : ¬ ¬ (5 ≤ 5)), decide_eq_false (by omega : ¬ r.proto = -1), Bool.false_or, Bool.false_or, Bool.eq_iff_iff, beq_iff_eq, decide_eq_true_eq]
      omega
    · rw [if_neg hp, decide_eq_true (by omega : ¬ 5 ≤ 4), decide_eq_true (by omega : r.proto = -1), Bool.true_or, Bool.true_or]
  have p1 : (decide ((rbx r (asksN r)).lo ≤ h.sp.toNat) && decide (h.sp.toNat ≤ (rbx r (asksN r)).hi)) = inP r.sl r.sh h.sp := by
    show (decide ((if 3 ≤ asksN r then r.sl.toNat else 0) ≤ h.sp.toNat) && decide (h.sp.toNat ≤ if 3 ≤ asksN r then r.sh.toNat else 65535)) = _
    rw [if_pos (by omega), if_pos (by omega)]
    unfold inP
    rw [Bool.eq_iff_iff]
    simp only [Bool.and_eq_true, decide_eq_true_eq]
    omega
  have p2 : (decide ((rbx r (asksN r)).lo2 ≤ h.dp.toNat) && decide (h.dp.toNat ≤ (rbx r (asksN r)).hi2)) = inP r.dl r.dh h.dp := by
    show (decide ((if 4 ≤ asksN r then r.dl.toNat else 0) ≤ h.dp.toNat) && decide (h.dp.toNat ≤ if 4 ≤ asksN r then r.dh.toNat else 65535)) = _
    rw [if_pos (by omega), if_pos (by omega)]
    unfold inP
    rw [Bool.eq_iff_iff]
    simp only [Bool.and_eq_true, decide_eq_true_eq]
    omega
  have t1 : (h.src.toNat / 2 ^ (32 - (rbx r (asksN r)).l1) == (rbx r (asksN r)).p1) = inB h.src r.sa r.sn := by
    rw [← s1]
    show (h.src.toNat / 2 ^ (32 - if 1 ≤ asksN r then r.sn.toNat else 0) == if 1 ≤ asksN r then r.sa.toNat / 2 ^ (32 - r.sn.toNat) else 0) = _
    rw [if_pos (by omega), if_pos (by omega)]
  have t2 : (h.dst.toNat / 2 ^ (32 - (rbx r (asksN r)).l2) == (rbx r (asksN r)).p2) = inB h.dst r.da r.dn := by
    rw [← s2]
    show (h.dst.toNat / 2 ^ (32 - if 2 ≤ asksN r then r.dn.toNat else 0) == if 2 ≤ asksN r then r.da.toNat / 2 ^ (32 - r.dn.toNat) else 0) = _
    rw [if_pos (by omega), if_pos (by omega)]
  rw [t1, t2, pr, p1, p2, decide_eq_true ok.s.1, decide_eq_true ok.d.1]
  simp [Bool.and_assoc]
theorem setF_none {L : List RuleV} {s : Nat → Bool} : ∀ {k : Nat}, (∀ i, i < k → ruleAt L i s = false) → setF L k s = false
  | 0, _ => rfl
  | k + 1, h => by
    have ih := setF_none (k := k) fun i hi => h i (by omega)
    show (if permitAt L k then fun s => setF L k s || decF L k s else setF L k) s = false
    split
    · show (setF L k s || (leftF L k s && ruleAt L k s)) = false
      rw [ih, h k (by omega)]; simp
    · exact ih
theorem left_any (L : List RuleV) (s : Nat → Bool) (k : Nat) : leftF L k s = true ↔ ∀ i, i < k → ruleAt L i s = false := by
  unfold leftF
  rw [Bool.not_eq_true', List.any_eq_false]
  constructor
  · intro h i hi
    unfold ruleAt
    cases hr : L[i]? with
    | none => rfl
    | some r =>
      have := h r (List.mem_of_getElem? (i := i) (by rw [List.getElem?_take_of_lt hi]; exact hr))
      simpa using this
  · intro h r hr
    obtain ⟨i, hi, he⟩ := List.getElem_of_mem hr
    have hik : i < k := by simp at hi; omega
    rw [List.getElem_take] at he
    have := h i hik
    unfold ruleAt at this
    rw [List.getElem?_eq_getElem (by simp at hi; omega), he] at this
    simpa using this
theorem setF_hit {L : List RuleV} {s : Nat → Bool} {j : Nat} (hj : ruleAt L j s = true) (hb : ∀ i, i < j → ruleAt L i s = false) : ∀ {k : Nat}, j < k → setF L k s = permitAt L j
  | k + 1, h => by
    show (if permitAt L k then fun s => setF L k s || decF L k s else setF L k) s = _
    rcases Nat.lt_or_ge j k with hlt | hge
    · have ih := setF_hit hj hb (k := k) hlt
      have hl : leftF L k s = false := by
        cases hh : leftF L k s with
        | false => rfl
        | true => rw [(left_any L s k).1 hh j hlt] at hj; cases hj
      split
      · show (setF L k s || (leftF L k s && ruleAt L k s)) = _
        rw [ih, hl]; simp
      · exact ih
    · obtain rfl : j = k := by omega
      have hn := setF_none hb
      have hl := (left_any L s j).2 hb
      split
      · rename_i hp
        show (setF L j s || (leftF L j s && ruleAt L j s)) = _
        rw [hn, hl, hj, hp]; rfl
      · rename_i hp
        rw [hn]
        simpa using hp
/-- What a filter permits, as a set, is what it permits of each header. -/
theorem setF_hd {L : List RuleV} (he : filtE L = 0) (h : HeaderV) : setF L L.length (hS h) = permN L h := by
  obtain ⟨_, hok⟩ := rule_may he
  have hr : ∀ i (r : RuleV), L[i]? = some r → ruleAt L i (hS h) = fitsB r h := fun i r hi => by rw [ruleAt_eq hi]; exact ruleF_hd (hok i r hi) h
  unfold permN decN
  rcases idxP_cases (fun r => fitsB r h) L with ⟨h1, h2⟩ | ⟨k, x, h1, h2, h3, h4⟩
  · rw [h1, setF_none fun i hi => by rw [hr i _ (List.getElem?_eq_getElem hi)]; exact h2 i _ (List.getElem?_eq_getElem hi)]
    unfold permAt
    rw [if_neg (by omega)]
  · have hk := (List.getElem?_eq_some_iff.1 h2).1
    rw [h1, setF_hit (j := k) (by rw [hr k x h2]; exact h3) (fun i hi => by rw [hr i _ (List.getElem?_eq_getElem (by omega))]; exact h4 i _ hi (List.getElem?_eq_getElem (by omega))) hk]
    unfold permAt permitAt
    rw [if_pos (by omega), Int.toNat_natCast]
/-- A function that hangs on what some rules hold alone. -/
def Dep (K : List RuleV) (F : Fun) : Prop := ∀ s t, (∀ r ∈ K, ruleF r s = ruleF r t) → F s = F t
theorem Dep.op2 {K : List RuleV} {F G : Fun} (op : Bool → Bool → Bool) (h : Dep K F) (g : Dep K G) : Dep K (fun s => op (F s) (G s)) := fun s t e => by
  show op (F s) (G s) = op (F t) (G t)
  rw [h s t e, g s t e]
theorem Dep.const (K : List RuleV) (b : Bool) : Dep K (fun _ => b) := fun _ _ _ => rfl
open Classical in
theorem Dep.wid {K : List RuleV} {F : Fun} (ok : ∀ (k : Nat) (r : RuleV), K[k]? = some r → RuleOk r) (h : Dep K F) : WidB F (bW K.length) := by
  have hw := hits_widB ok (List.range K.length) (fun i hi => by have := List.mem_range.1 hi; omega) fun T => decide (∃ t, hits K (List.range K.length) t = T ∧ F t = true)
  rw [List.length_range] at hw
  refine (congrArg (fun G => WidB G (bW K.length)) (funext fun s => ?_)).mp hw
  rw [Bool.eq_iff_iff, decide_eq_true_eq]
  constructor
  · rintro ⟨t, h1, h2⟩
    rw [← h2]
    refine h s t fun r hr => ?_
    obtain ⟨i, hi, he⟩ := List.getElem_of_mem hr
    have hat : ∀ u, ruleAt K i u = ruleF r u := fun u => by rw [ruleAt_eq (r := r) (by rw [← he]; exact List.getElem?_eq_getElem hi)]
    have hm : ∀ u, (i ∈ hits K (List.range K.length) u) ↔ ruleF r u = true := fun u => by
      unfold hits
      rw [List.mem_filter, List.mem_range, hat]
      exact ⟨fun h => h.2, fun h => ⟨hi, h⟩⟩
    rw [Bool.eq_iff_iff, ← hm s, ← hm t, h1]
  · intro hs
    exact ⟨s, rfl, hs⟩
theorem Dep.at {K L : List RuleV} (hs : ∀ r ∈ L, r ∈ K) (i : Nat) : Dep K (ruleAt L i) := fun s t e => by
  unfold ruleAt
  cases h : L[i]? with
  | none => rfl
  | some r => exact e r (hs r (List.mem_of_getElem? h))
theorem Dep.left {K L : List RuleV} (hs : ∀ r ∈ L, r ∈ K) (k : Nat) : Dep K (leftF L k) := fun s t e => by
  rw [Bool.eq_iff_iff, left_any, left_any]
  exact ⟨fun h i hi => by rw [← Dep.at hs i s t e]; exact h i hi, fun h i hi => by rw [Dep.at hs i s t e]; exact h i hi⟩
theorem Dep.set {K L : List RuleV} (hs : ∀ r ∈ L, r ∈ K) : ∀ k, Dep K (setF L k)
  | 0 => Dep.const K false
  | k + 1 => by
    show Dep K (if permitAt L k then fun s => setF L k s || decF L k s else setF L k)
    split
    · exact (Dep.set hs k).op2 _ ((Dep.left hs k).op2 (fun x y => x && y) (Dep.at hs k))
    · exact Dep.set hs k
/-- The rules of all filters. -/
def rulesOf (Fs : List FiltV) : List RuleV := Fs.flatMap FiltV.L
theorem fnd_mem {Fs : List FiltV} {nm : ByteArray} {f : FiltV} (h : fnd Fs nm = some f) : f ∈ Fs := by
  unfold fnd at h
  split at h
  · exact List.mem_of_getElem? h
  · cases h
theorem fndL_all {Fs : List FiltV} (nm : ByteArray) : ∀ r ∈ fndL Fs nm, r ∈ rulesOf Fs := by
  intro r hr
  unfold fndL at hr
  cases h : fnd Fs nm with
  | none => rw [h] at hr; cases hr
  | some f => rw [h] at hr; exact List.mem_flatMap.2 ⟨f, fnd_mem h, hr⟩
theorem fndL_e {Fs : List FiltV} (hok : ∀ f ∈ Fs, filtE f.L = 0) (nm : ByteArray) : filtE (fndL Fs nm) = 0 := by
  unfold fndL
  cases h : fnd Fs nm with
  | none => rfl
  | some f => exact hok f (fnd_mem h)
theorem fndL_len {Fs : List FiltV} (nm : ByteArray) : (fndL Fs nm).length ≤ (rulesOf Fs).length := by
  unfold fndL
  cases h : fnd Fs nm with
  | none => simp
  | some f =>
    have hm := fnd_mem h
    obtain ⟨l1, l2, e⟩ := List.append_of_mem hm
    unfold rulesOf
    rw [e, List.flatMap_append, List.flatMap_cons]
    simp only [List.length_append]
    omega
theorem rulesOf_ok {Fs : List FiltV} (hok : ∀ f ∈ Fs, filtE f.L = 0) : ∀ (k : Nat) (r : RuleV), (rulesOf Fs)[k]? = some r → RuleOk r := fun k r hr => by
  obtain ⟨f, hf, hm⟩ := List.mem_flatMap.1 (List.mem_of_getElem? hr)
  obtain ⟨i, hi, he⟩ := List.getElem_of_mem hm
  exact (rule_may (hok f hf)).2 i r (by rw [← he]; exact List.getElem?_eq_getElem hi)
/-- What a rewriting's filter lets, as a set; what those ahead of it on its side let. -/
def ownF (Fs : List FiltV) (x : RewV) : Fun := if x.nm.toList = [] then fun _ => true else setF (fndL Fs x.nm) (fndL Fs x.nm).length
def aheadF (Fs : List FiltV) (R : List RewV) (d : Bool) (i : Nat) : Fun := fun s => (R.take i).any fun x => (x.dest == d) && ownF Fs x s
theorem Dep.own (Fs : List FiltV) (x : RewV) : Dep (rulesOf Fs) (ownF Fs x) := by
  unfold ownF
  split
  · exact Dep.const _ true
  · exact Dep.set (fndL_all x.nm) _
theorem Dep.ahead (Fs : List FiltV) (R : List RewV) (d : Bool) (i : Nat) : Dep (rulesOf Fs) (aheadF Fs R d i) := fun s t e => by
  unfold aheadF
  have h : (fun x : RewV => (x.dest == d) && ownF Fs x s) = fun x => (x.dest == d) && ownF Fs x t := funext fun x => by rw [Dep.own Fs x s t e]
  rw [h]
theorem ahead_succ {Fs : List FiltV} {R : List RewV} {i : Nat} {x : RewV} (h : R[i]? = some x) (d : Bool) : aheadF Fs R d (i + 1) = if x.dest = d then fun s => ownF Fs x s || aheadF Fs R d i s else aheadF Fs R d i := by
  funext s
  unfold aheadF
  rw [List.take_add_one, h]
  by_cases hd : x.dest = d
  · rw [if_pos hd]
    simp [List.any_append, hd, Bool.or_comm]
  · rw [if_neg hd]
    simp [List.any_append, hd]
/-- What is permitted of a header. -/
def allowB (Fs : List FiltV) (x : RewV) (h : HeaderV) : Bool := if x.nm.toList = [] then true else permN (fndL Fs x.nm) h
theorem own_hd {Fs : List FiltV} (hok : ∀ f ∈ Fs, filtE f.L = 0) (x : RewV) (h : HeaderV) : ownF Fs x (hS h) = allowB Fs x h := by
  unfold ownF allowB
  split
  · rfl
  · exact setF_hd (fndL_e hok x.nm) h
theorem own_set (Fs : List FiltV) (x : RewV) : SetF (ownF Fs x) := by
  unfold ownF
  split
  · exact fun _ _ _ _ => rfl
  · exact setF_set _ _
theorem ahead_set (Fs : List FiltV) (R : List RewV) (d : Bool) (i : Nat) : SetF (aheadF Fs R d i) := fun v hv s b => by
  unfold aheadF
  have h : (fun x : RewV => (x.dest == d) && ownF Fs x (put s v b)) = fun x => (x.dest == d) && ownF Fs x s := funext fun x => by rw [own_set Fs x v hv s b]
  rw [h]
theorem bW_49 {k : Nat} (h : k ≤ 49) : bW k ≤ 94090824 := Nat.le_trans (bW_mono k 49 h) (by decide +kernel)
end Go.Proofs.YthhcaoljejifeaaGreat

/-
  Rules without bounds; nobody's space.
-/
namespace Go.Proofs.YthhcaoljejifeaaGreat
open Go Go.RowKit Go.ChangeMaps Go.MapKept Go.Maps Go.Lib Go.Sort

theorem reachF_zero (a n : Nat) : ∀ m, reachF a n 0 true m = fun _ => true
  | 0 => rfl
  | m + 1 => by
    unfold reachF stepF
    rw [reachF_zero a n m]
    funext s
    simp
theorem reachF_top (a n k : Nat) : ∀ m, m ≤ k → reachF a n (2 ^ k - 1) false m = fun _ => true
  | 0, _ => rfl
  | m + 1, hm => by
    have hb : (2 ^ k - 1).testBit m = true := by rw [Nat.testBit_two_pow_sub_one]; simp; omega
    unfold reachF stepF
    rw [reachF_top a n k m (by omega), hb]
    funext s
    simp
theorem spanF_all (a n k : Nat) (h : n ≤ k) : spanF a n 0 (2 ^ k - 1) = fun _ => true := by
  unfold spanF
  rw [reachF_zero, reachF_top a n k n h]
  rfl
/-- The rule without bounds, of a protocol or of any. -/
def wideR (permit : Bool) (p : Int) (hp : -1 ≤ p ∧ p ≤ 255) : RuleV := ⟨permit, p, 0, 0, 0, 0, 0, 65535, 0, 65535, by omega, by omega, by omega, by omega, by omega, by omega, by omega⟩
theorem wide_ask (b : Bool) (p : Int) (hp : -1 ≤ p ∧ p ≤ 255) : ∀ k, k < 4 → askF (wideR b p hp) k = fun _ => true := by
  intro k hk
  obtain rfl | rfl | rfl | rfl : k = 0 ∨ k = 1 ∨ k = 2 ∨ k = 3 := by omega
  · rfl
  · rfl
  · exact spanF_all 72 16 16 (Nat.le_refl _)
  · exact spanF_all 88 16 16 (Nat.le_refl _)
theorem wide_ruleK (b : Bool) (p : Int) (hp : -1 ≤ p ∧ p ≤ 255) : ∀ k, k ≤ 4 → ruleK (wideR b p hp) k = fun _ => true
  | 0, _ => rfl
  | k + 1, hk => by
    unfold ruleK
    rw [wide_ruleK b p hp k (by omega), wide_ask b p hp k (by omega)]
    rfl
theorem wide_five (b : Bool) (p : Int) (hp : -1 ≤ p ∧ p ≤ 255) : ruleK (wideR b p hp) 5 = spanF 64 8 p.toNat p.toNat := by
  show (fun s => ruleK (wideR b p hp) 4 s && askF (wideR b p hp) 4 s) = _
  rw [wide_ruleK b p hp 4 (Nat.le_refl _)]
  rfl
theorem wide_ruleF (b : Bool) (p : Int) (hp : -1 ≤ p ∧ p ≤ 255) : ruleF (wideR b p hp) = if 0 ≤ p then spanF 64 8 p.toNat p.toNat else fun _ => true := by
  unfold ruleF asksN
  show ruleK _ (if 0 ≤ p then 5 else 4) = _
  split
  · exact wide_five b p hp
  · exact wide_ruleK b p hp 4 (Nat.le_refl _)
theorem Wid.const (b : Bool) : Wid (fun _ => b) 0 := (Wid.seg (a := 0) (b := 0) (k := 1) (Hangs.const b 0 0) (by omega) (fun v => CutLe.const b v)).mono (by omega)
theorem wide_wid (b : Bool) (p : Int) (hp : -1 ≤ p ∧ p ≤ 255) : ∀ j, j ≤ 5 → Wid (ruleK (wideR b p hp) j) 576 := by
  intro j hj
  rcases Nat.lt_or_ge j 5 with h | h
  · rw [wide_ruleK b p hp j (by omega)]
    exact (Wid.const true).mono (by omega)
  · obtain rfl : j = 5 := by omega
    rw [wide_five b p hp]
    exact spanF_wid 64 8 _ _ (by omega) (by omega)
theorem RdF.none (A : Blks) (km : Nat) (w : World) (k : Nat) : RdF A km w k (.slice none 0 0) 0 [] := ⟨_, 0, rfl, Nat.le_refl _, by simp, fun h => absurd h (by omega)⟩
section
set_option maxRecDepth 100000
set_option maxHeartbeats 2000000
end
end Go.Proofs.YthhcaoljejifeaaGreat

/-
  A new space; what lies below a space's blocks stays; filter.Set at nobody's space; the rules of a closed law.
-/
namespace Go.Proofs.YthhcaoljejifeaaGreat
open Go Go.RowKit Go.ChangeMaps Go.MapKept Go.Maps Go.Lib Go.Sort

def newSg : Sg := ⟨N0, [], [0, 1], []⟩
theorem newSg_ok (Mo : Nat) : SgOk Mo newSg := by
  refine ⟨N0_wf, ⟨List.nodup_nil, fun i hi => absurd hi (by simp [newSg])⟩, fun i hi => absurd hi (by simp [newSg]), fun g hg => ?_, by simp [newSg], by simp [newSg], fun p hp => absurd hp (by simp [newSg]), Nat.zero_le _, by decide⟩
  have h2 : g = 0 ∨ g = 1 := by simpa [newSg] using hg
  rcases h2 with rfl | rfl
  · exact ⟨by decide, .inl (by omega), Hangs.const false 0 208⟩
  · exact ⟨by decide, .inl (by omega), Hangs.const true 0 208⟩
section
variable {w w' : World} {B S km : Nat} {A : Blks} {Mo : Nat} {σ : Sg}
theorem SpAt.newOk (h : SpAt w B S km A Mo N0 [] [0, 1] []) : SpOk w B S km A Mo newSg := ⟨h, newSg_ok Mo⟩
theorem SpOk.foreign_low (h : SpOk w B S km A Mo σ) {k : Nat} (hk : k < B) : Foreign A w k := by
  obtain ⟨nv, ha⟩ := h.sp.ar
  have hb : B ≤ A.a := ha.base A.a (by simp [Blks.list])
  have hl := lt_of_block ha.cells
  refine ⟨by omega, fun hm => by have := ha.base k hm; omega, fun v hv e => ?_⟩
  rw [ha.cell2] at hv
  injection hv with hv
  subst hv
  have := (ha.row.lt k e).1
  omega
theorem SpOk.low (h : SpOk w B S km A Mo σ) (hB : B ≤ km) (hk : KeptS A km w w') : Below B w w' :=
  ⟨hk.os, hk.tape, hk.output, hk.size, fun k hlt => (hk.same k (h.foreign_low hlt) (by omega)).1⟩
end
section
set_option maxRecDepth 100000
set_option maxHeartbeats 2000000
end
/-- The rule that permits all. -/
def openR : RuleV := wideR true (-1) (by omega)
end Go.Proofs.YthhcaoljejifeaaGreat

/-
  The sets of the linter's small example (plain).
-/
namespace Go.Proofs.YthhcaoljejifeaaGreat
open Go Go.RowKit Go.ChangeMaps Go.MapKept Go.Maps Go.Lib Go.Sort

/-- A function of the headers' bits with c cuts at most at each variable. -/
structure WD (F : Fun) (c : Nat) : Prop where
  h : Hangs F 0 208
  c : ∀ v, CutLe F v c
theorem WD.wid {F : Fun} {c K : Nat} (h : WD F c) (hc : 208 * c ≤ K) : Wid F K := (Wid.all h.h h.c).mono hc
theorem WD.op2 {F G : Fun} {a b : Nat} (o : Bool → Bool → Bool) (f : WD F a) (g : WD G b) : WD (fun s => o (F s) (G s)) (a * b) := ⟨f.h.op2 o g.h, fun v => (f.c v).op2 o (g.c v)⟩
theorem WD.const (b : Bool) : WD (fun _ => b) 1 := ⟨Hangs.const b 0 208, fun v => CutLe.const b v⟩
theorem WD.span (a n lo hi : Nat) (h : a + n ≤ 104) : WD (spanF a n lo hi) 9 := ⟨spanF_hang a n lo hi h, fun u => spanF_cut a n lo hi u⟩
def ln6 : RuleV := wideR true 6 (by omega)
def lnA : RuleV := wideR false (-1) (by omega)
def ln17 : RuleV := wideR true 17 (by omega)
def lnL : List RuleV := [ln6, lnA, ln17]
theorem ln6_F : ruleF ln6 = spanF 64 8 6 6 := by unfold ln6; rw [wide_ruleF]; rfl
theorem lnA_F : ruleF lnA = fun _ => true := by unfold lnA; rw [wide_ruleF]; rfl
theorem ln17_F : ruleF ln17 = spanF 64 8 17 17 := by unfold ln17; rw [wide_ruleF]; rfl
theorem ln_left0 : leftF lnL 0 = fun _ => true := rfl
theorem ln_left1 : leftF lnL 1 = fun s => true && !spanF 64 8 6 6 s := by rw [leftF_succ (show lnL[0]? = some ln6 from rfl), ln6_F, ln_left0]
theorem ln_left2 : leftF lnL 2 = fun s => (true && !spanF 64 8 6 6 s) && !true := by rw [leftF_succ (show lnL[1]? = some lnA from rfl), lnA_F, ln_left1]
theorem ln_left3 : leftF lnL 3 = fun s => ((true && !spanF 64 8 6 6 s) && !true) && !spanF 64 8 17 17 s := by rw [leftF_succ (show lnL[2]? = some ln17 from rfl), ln17_F, ln_left2]
theorem ln_dec0 : decF lnL 0 = fun s => true && spanF 64 8 6 6 s := by rw [decF_eq (show lnL[0]? = some ln6 from rfl), ln6_F, ln_left0]
theorem ln_dec1 : decF lnL 1 = fun s => (true && !spanF 64 8 6 6 s) && true := by rw [decF_eq (show lnL[1]? = some lnA from rfl), lnA_F, ln_left1]
theorem ln_dec2 : decF lnL 2 = fun s => ((true && !spanF 64 8 6 6 s) && !true) && spanF 64 8 17 17 s := by rw [decF_eq (show lnL[2]? = some ln17 from rfl), ln17_F, ln_left2]
theorem wdS (p : Nat) : WD (spanF 64 8 p p) 9 := WD.span 64 8 p p (by omega)
theorem wd1 : WD (fun s => true && !spanF 64 8 6 6 s) 9 := (WD.const true).op2 (fun x y => x && !y) (wdS 6)
theorem wd2 : WD (fun s => (true && !spanF 64 8 6 6 s) && !true) 9 := wd1.op2 (fun x y => x && !y) (WD.const true)
theorem wd3 : WD (fun s => ((true && !spanF 64 8 6 6 s) && !true) && !spanF 64 8 17 17 s) 81 := wd2.op2 (fun x y => x && !y) (wdS 17)
theorem we0 : WD (fun s => true && spanF 64 8 6 6 s) 9 := (WD.const true).op2 (fun x y => x && y) (wdS 6)
theorem we1 : WD (fun s => (true && !spanF 64 8 6 6 s) && true) 9 := wd1.op2 (fun x y => x && y) (WD.const true)
theorem we2 : WD (fun s => ((true && !spanF 64 8 6 6 s) && !true) && spanF 64 8 17 17 s) 81 := wd2.op2 (fun x y => x && y) (wdS 17)
theorem ln_filt : FiltW lnL 16848 := by
  intro k r hr
  have hk : k < 3 := (List.getElem?_eq_some_iff.1 hr).1
  have hw : ∀ (b : Bool) (p : Int) (hp : -1 ≤ p ∧ p ≤ 255) (j : Nat), j ≤ 5 → Wid (ruleK (wideR b p hp) j) 16848 := fun b p hp j hj => (wide_wid b p hp j hj).mono (by omega)
  obtain rfl | rfl | rfl : k = 0 ∨ k = 1 ∨ k = 2 := by omega
  · obtain rfl : ln6 = r := by injection hr
    exact ⟨hw _ _ _, by rw [ln_dec0]; exact we0.wid (by omega), by rw [ln_left1]; exact wd1.wid (by omega)⟩
  · obtain rfl : lnA = r := by injection hr
    exact ⟨hw _ _ _, by rw [ln_dec1]; exact we1.wid (by omega), by rw [ln_left2]; exact wd2.wid (by omega)⟩
  · obtain rfl : ln17 = r := by injection hr
    exact ⟨hw _ _ _, by rw [ln_dec2]; exact we2.wid (by omega), by rw [ln_left3]; exact wd3.wid (by omega)⟩
theorem ln_e : filtE lnL = 0 := by
  unfold lnL ln6 lnA ln17
  decide +kernel
theorem ln_dec0_ne : decF lnL 0 ≠ fun _ => false := by
  rw [ln_dec0]
  intro h
  have := congrFun h (fun v => v == 138 || v == 140)
  exact absurd this (by decide +kernel)
theorem ln_dec1_ne : decF lnL 1 ≠ fun _ => false := by
  rw [ln_dec1]
  intro h
  have := congrFun h (fun _ => false)
  exact absurd this (by decide +kernel)
theorem ln_dec2_eq : decF lnL 2 = fun _ => false := by
  rw [ln_dec2]
  funext s
  simp
end Go.Proofs.YthhcaoljejifeaaGreat

/-
  The rules that decide nothing: lint.Rules where there is room.
-/
namespace Go.Proofs.YthhcaoljejifeaaGreat
open Go Go.RowKit Go.ChangeMaps Go.MapKept Go.Maps Go.Lib Go.Sort

/-- Does a function hold nowhere? -/
noncomputable def zF (F : Fun) : Bool := @decide (∀ s, F s = false) (Classical.propDecidable _)
theorem zF_iff (F : Fun) : zF F = true ↔ ∀ s, F s = false := by simp [zF]
/-- The rules up to the m-th that decide nothing. -/
noncomputable def zerosP (L : List RuleV) (m : Nat) : List Nat := (List.range m).filter fun i => zF (decF L i)
theorem zerosP_succ (L : List RuleV) (m : Nat) : zerosP L (m + 1) = if zF (decF L m) then zerosP L m ++ [m] else zerosP L m := by
  unfold zerosP
  rw [List.range_succ, List.filter_append]
  by_cases h : zF (decF L m) = true
  · rw [if_pos h]; simp [h]
  · rw [if_neg h]; simp [h]
theorem zerosP_len (L : List RuleV) (m : Nat) : (zerosP L m).length ≤ m := by
  have := List.length_filter_le (fun i => zF (decF L i)) (List.range m)
  rw [List.length_range] at this
  exact this
theorem ncl_app (a b : List Nat) : ncl (a ++ b) = ncl a ++ ncl b := by simp [ncl]
theorem Den.z {Mo : Nat} {τ : Sg} {n : Nat} {F : Fun} (h : Den τ n F) (o : SgOk Mo τ) : zF F = decide (n = 0) := by
  by_cases hn : n = 0
  · subst hn
    rw [show zF F = true from (zF_iff F).2 fun s => by rw [← h.2 s]; rfl]
    simp
  · rw [decide_eq_false hn]
    cases hz : zF F with
    | false => rfl
    | true =>
      have hF : F = fun _ => false := funext ((zF_iff F).1 hz)
      subst hF
      exact absurd (h.same (Den.zero o) o) hn
section
set_option maxRecDepth 100000
set_option maxHeartbeats 4000000
theorem lintRules_any (w : World) (nm : ByteArray) (L : List RuleV) (vL : Value) (hL : Rd w w.heap.size 10 vL L.length (rcells L)) (he : filtE L = 0) (K : Nat) (hK : FiltW L K) (hr : L.length * (6080 + 7 * K) ≤ 4194304) :
    Calls Tryz.prog 11 #[.agg #[.string nm, vL]] w fun e w' => ∃ v, e = .returned (.tuple #[v, .int .i64 0]) ∧ w'.ownsRow w.heap.size 3 1 v (zerosP L L.length).length (ncl (zerosP L L.length)) ∧ Below w.heap.size w w' := by
  obtain ⟨i0, hif, hz0, hz1, hz2⟩ := info_parts Tryz.infoInt
  obtain ⟨PL, cL, rfl, _⟩ := hL.form
  have hlen : L.length ≤ 256 := (rule_may he).1
  have hbw := below1 w (.cells #[.string nm, .slice PL L.length cL] 54)
  have hkw := blk1 w (.cells #[.string nm, .slice PL L.length cL] 54)
  have HL := Lib.hid (hL.below hbw)
  have HB0 := Lib.hid hbw
  have HK0 := Lib.hid hkw
  have HE := Lib.hid (And.intro he (And.intro hK hr))
  clear hL hbw hkw he hK hr
  go_enter Tryz.func11, Tryz.ntmps11
  go_upto_region 1 with fail
  generalize w.alloc (.cells #[.string nm, .slice PL L.length cL] 54) = w0 at *
  have HNEW := Lib.hid (show Calls Tryz.prog 14 #[.int .i64 4194304] w0 (fun e w' => ∃ (S km : Nat) (A : Blks), e = .returned (.tuple #[.pointer (some ⟨S, 0, none⟩), .int .i64 0]) ∧ SpAt w' w0.heap.size S km A 4194304 N0 [] [0, 1] [] ∧ Below w0.heap.size w0 w' ∧ w0.heap.size ≤ S ∧ w0.heap.size ≤ km) from relNew_any w0 4194304 (Nat.le_refl _))
  go_upto_region 2 with ((with_reducible refine HNEW.out.mono ?_); rintro e w1 ⟨S, km, A, rfl, hs1, hb1, hS1, hkm1⟩; have HS1 := Lib.hid hs1.newOk; have HB1 := Lib.hid hb1; have HLO := Lib.hid (And.intro hS1 hkm1); clear hs1 hb1 hS1 hkm1)
  clear HNEW
  have b0 : w1.cell? ⟨w.heap.size, 0, none⟩ = some (.string nm) := cell_of_row _ _ 0 _ _ (0, 0) (blk_below HB1.out HK0.out)
  have b1 : w1.cell? ⟨w.heap.size, 1, none⟩ = some (.slice PL L.length cL) := cell_of_row _ _ 1 _ _ (0, 0) (blk_below HB1.out HK0.out)
  have hrf : RdF A km w1 10 (.slice PL L.length cL) L.length (rcells L) := by
    obtain ⟨Q, c', hv, hc, hl10, hp⟩ := HL.out.below (HB1.out.mono HB0.out.size)
    injection hv with e1 e2 e3
    subst e1 e3
    refine ⟨PL, cL, rfl, hc, hl10, fun h0 => ?_⟩
    obtain ⟨b, off, hA, hlt, hcell⟩ := hp h0
    have hb0 : b < w0.heap.size := Nat.lt_of_lt_of_le hlt HB0.out.size
    exact ⟨b, off, hA, HS1.out.foreign_low hb0, by have := HLO.out.2; omega, hcell⟩
  have HRU := Lib.hid (rules_yes HS1.out nm L _ hrf HE.out.1 K HE.out.2.1 (by have := HE.out.2.2; show 2 + _ ≤ _; omega))
  clear hrf
  go_upto_region 3 with ((with_reducible refine HRU.out.mono ?_); rintro e w2 hr; rcases hr with ⟨hk2, ⟨_, h2, _⟩ | ⟨vN, ns, τ, rfl, hs2, ht2, hln, hden, hown, hof⟩⟩; exact absurd h2 (by have := HE.out.2.2; show ¬ 4194304 < 0 + _; omega); obtain ⟨AN, cN, hvN, _⟩ := owns_form hown; subst hvN; have HB2 := Lib.hid (HB1.out.trans (HS1.out.low HLO.out.2 hk2)); have HS2 := Lib.hid hs2; have HDN := Lib.hid hden; have HON := Lib.hid hown; have HLN := Lib.hid hln; clear hk2 hs2 ht2 hden hown hof hln)
  clear b0 b1 HRU
  have hn256 : ns.length ≤ 256 := by have := HLN.out; omega
  go_wp2
  go_loopw [8, 26] (fun r i wr => ∃ m : Nat, i = .int .i64 m ∧ m ≤ ns.length ∧ Hid (wr.ownsRow w2.heap.size 3 1 r (zerosP L m).length (ncl (zerosP L m))) ∧ Hid (Below w2.heap.size w2 wr)) (fun _ i _ => ns.length - (intOf i).toNat)
  case atStart => exact ⟨0, rfl, by omega, Lib.hid (World.ownsRow_nil _ _ _ _), Lib.hid (Below.refl _ _)⟩
  case round =>
    obtain ⟨m, rfl, hm, HO, HB⟩ := hrel
    obtain ⟨Ar, cr, hr, _⟩ := owns_form HO.out
    subst hr
    by_cases hlt : m < ns.length
    · have hI : (m : Int) < (ns.length : Int) := by omega
      obtain ⟨q, hq⟩ : ∃ q, ns[m]? = some q := ⟨_, List.getElem?_eq_getElem hlt⟩
      obtain ⟨b, off, c', hv, _, hbB, hcell⟩ := (Rd.of_own HON.out).pos (by omega)
      injection hv with hv1 hvl hv3
      subst hv1 hv3
      clear hvl
      have c0 : wr.cell? ⟨b, off + m, none⟩ = some (.int .i64 (q : Int)) := (HB.out.cell (p := ⟨b, off + m, none⟩) hbB).trans (hcell m _ (by simp [ncl, hq]))
      have HZ := Lib.hid ((HDN.out m q hq).z HS2.out.ok)
      have hbs := HB.out.size
      have hzl : (zerosP L m).length ≤ 1099511627776 := by have := zerosP_len L m; omega
      clear hcell hq
      by_cases hq0 : q = 0
      · subst hq0
        have HZ2 : Hid (zerosP L (m + 1) = zerosP L m ++ [m]) := Lib.hid (by rw [zerosP_succ, HZ.out]; rfl)
        go_wp2_with (at_builtin; refine wpList_push2 (v := .slice Ar (zerosP L m).length cr) rfl _ _ 37 rfl 3 i0 _ 1 8 Tryz.underlying37 hif hz0 hz1 hz2 rfl (by decide) (by decide) [.int .i64 m] rfl rfl rfl HO.out rfl (one_i64 _) hzl hbs ?_; intro v3 w3 hown3 hg3 hm3; have HO3 := Lib.hid hown3; have HB3 := Lib.hid (below_grown HB.out hbs hg3 (fun g hg => (HO.out.lt g hg).1)); clear hown3 hg3 hm3)
        exact ⟨⟨m + 1, by go_num, by omega, Lib.hid (by rw [HZ2.out, List.length_append, ncl_app]; exact HO3.out), HB3⟩, by simp only [intOf]; omega⟩
      · have hq2 : ((q : Int) == 0) = false := by simpa using hq0
        have HZ2 : Hid (zerosP L (m + 1) = zerosP L m) := Lib.hid (by rw [zerosP_succ, HZ.out, decide_eq_false hq0]; rfl)
        go_wp2
        exact ⟨⟨m + 1, by go_num, by omega, Lib.hid (by rw [HZ2.out]; exact HO.out), HB⟩, by simp only [intOf]; omega⟩
    · obtain rfl : m = ns.length := by omega
      have hI : ¬ (ns.length : Int) < (ns.length : Int) := by omega
      have HFIN : Hid (wr.ownsRow w.heap.size 3 1 (.slice Ar (zerosP L ns.length).length cr) (zerosP L L.length).length (ncl (zerosP L L.length))) := Lib.hid (by
        have h := owns_base HO.out (Nat.le_trans HB0.out.size HB2.out.size)
        rw [← HLN.out]; exact h)
      have HBF : Hid (Below w.heap.size w wr) := Lib.hid (HB0.out.trans ((HB2.out.trans (HB.out.mono HB2.out.size)).mono HB0.out.size))
      go_wp2
      go_ret2
      exact ⟨_, rfl, HFIN.out, HBF.out⟩
end
end Go.Proofs.YthhcaoljejifeaaGreat

/-
  The rewritings that are never done: what the walk keeps; no program.
-/
namespace Go.Proofs.YthhcaoljejifeaaGreat
open Go Go.RowKit Go.ChangeMaps Go.MapKept Go.Maps Go.Lib Go.Sort

theorem boolK : Keyed Tryz.prog 4 := bool_keyed Tryz.underlying4
theorem key_bool (d : Bool) : ∃ kl, keyOf Tryz.prog 4 (.bool d) = some kl := ⟨.bool d, by simp [keyOf, mapKey, Tryz.underlying4]⟩
section
variable {wB wr : World} {B S km : Nat} {A : Blks} {τ : Sg} {bm base : Nat} {l : List (Value × Value)} {ov : Value} {ns : List Nat}
/-- The space, the map of what is ahead, the row of what is found. -/
structure RwS (wB : World) (base : Nat) (wr : World) (B S km : Nat) (A : Blks) (τ : Sg) (bm : Nat) (l : List (Value × Value)) (ov : Value) (ns : List Nat) : Prop where
  sp : SpOk wr B S km A 4194304 τ
  low : Below B wB wr
  out : wr.ownsRow base 3 1 ov ns.length (ncl ns)
  outf : OwnF A km S wr ov
  map : MapAt Tryz.prog 4 wr bm l
  mapf : Foreign A wr bm ∧ bm ≠ km ∧ bm ≠ S
  bml : bm < base ∧ B ≤ bm ∧ B ≤ km
theorem RwS.space {w' : World} {τ' : Sg} (h : RwS wB base wr B S km A τ bm l ov ns) (k : KeptS A km wr w') (s : SpOk w' B S km A 4194304 τ') : RwS wB base w' B S km A τ' bm l ov ns :=
  ⟨s, h.low.trans (h.sp.low h.bml.2.2 k), owns_like h.out fun g hg => (k.same g (h.outf g hg).1 (h.outf g hg).2.1).1, fun g hg => ⟨(k.same g (h.outf g hg).1 (h.outf g hg).2.1).2, (h.outf g hg).2⟩,
    h.map.same (k.same bm h.mapf.1 h.mapf.2.1).1, ⟨(k.same bm h.mapf.1 h.mapf.2.1).2, h.mapf.2⟩, h.bml⟩
theorem RwS.below {w' : World} (h : RwS wB base wr B S km A τ bm l ov ns) (hb : Below wr.heap.size wr w') : RwS wB base w' B S km A τ bm l ov ns := h.space (h.sp.kept hb) (h.sp.below hb)
theorem RwS.put {w' : World} {l' : List (Value × Value)} (h : RwS wB base wr B S km A τ bm l ov ns) (hm : MapAt Tryz.prog 4 w' bm l') (hg : wr.grownBy w' (some bm)) : RwS wB base w' B S km A τ bm l' ov ns := by
  obtain ⟨s1, s2, s3⟩ := h.sp.others hg (fun g e => by injection e with e; subst e; exact h.mapf)
  have hB : B ≤ wr.heap.size := Nat.le_of_lt (Nat.lt_of_le_of_lt h.bml.2.1 h.mapf.1.1)
  refine ⟨s1, h.low.trans ⟨hg.os, hg.tape, hg.output, hg.size, fun k hk => hg.block k (by omega) (fun e => by injection e with e; have := h.bml.2.1; omega)⟩, owns_like h.out fun g hgo => hg.block g (h.out.lt g hgo).2 (fun e => by injection e with e; have := (h.out.lt g hgo).1; have := h.bml.1; omega), fun g hgo => ⟨s2 g (h.outf g hgo).1, (h.outf g hgo).2⟩, hm, ⟨s2 bm h.mapf.1, h.mapf.2⟩, h.bml⟩
theorem RwS.push {w' : World} {ov' : Value} {n : Nat} (h : RwS wB base wr B S km A τ bm l ov ns) (ho : w'.ownsRow base 3 1 ov' (ns.length + 1) (ncl ns ++ [.int .i64 (n : Int)])) (hg : wr.grownBy w' ov.ownBlock) (hm : Moved ov ov' wr.heap.size) :
    RwS wB base w' B S km A τ bm l ov' (ns ++ [n]) := by
  obtain ⟨s1, s2, s3⟩ := h.sp.others hg h.outf
  have hB : B ≤ wr.heap.size := Nat.le_of_lt (Nat.lt_of_le_of_lt h.bml.2.1 h.mapf.1.1)
  refine ⟨s1, h.low.trans ⟨hg.os, hg.tape, hg.output, hg.size, fun k hk => hg.block k (by omega) (fun e => by have := (h.out.lt k e.symm).1; have := h.bml; omega)⟩, ?_, h.outf.pushed s2 s3 hm (fun g hg => (ho.lt g hg).2), h.map.same (hg.block bm h.mapf.1.1 (fun e => by have := (h.out.lt bm e.symm).1; have := h.bml.1; omega)), ⟨s2 bm h.mapf.1, h.mapf.2⟩, h.bml⟩
  rw [List.length_append]
  have e : ncl (ns ++ [n]) = ncl ns ++ [.int .i64 (n : Int)] := by simp [ncl]
  rw [e]
  exact ho
end
/-- The map's entries are the nodes of what is ahead. -/
def AheadM (Fs : List FiltV) (R : List RewV) (i : Nat) (l : List (Value × Value)) (τ : Sg) : Prop := (l.map (·.1)).Nodup ∧ ∀ d : Bool, ∃ n : Nat, (getM l (.bool d)).getD (.int .i64 0) = .int .i64 (n : Int) ∧ Den τ n (aheadF Fs R d i)
theorem AheadM.start {Mo : Nat} (Fs : List FiltV) (R : List RewV) {τ : Sg} (o : SgOk Mo τ) : AheadM Fs R 0 [] τ := ⟨by simp, fun d => ⟨0, rfl, by
  have := Den.zero o
  rw [show aheadF Fs R d 0 = fun _ => false from funext fun s => by simp [aheadF]]
  exact this⟩⟩
theorem AheadM.to {k m Mo Mo' : Nat} {Fs : List FiltV} {R : List RewV} {i : Nat} {l : List (Value × Value)} {σ τ : Sg} (h : AheadM Fs R i l σ) (t : To k m σ τ) (o : SgOk Mo σ) (p : SgOk Mo' τ) : AheadM Fs R i l τ := ⟨h.1, fun d => by
  obtain ⟨n, h1, h2⟩ := h.2 d
  exact ⟨n, h1, h2.to t o p⟩⟩
theorem AheadM.put {Fs : List FiltV} {R : List RewV} {i : Nat} {l : List (Value × Value)} {τ : Sg} {x : RewV} {q : Nat} (h : AheadM Fs R i l τ) (hx : R[i]? = some x) (hq : Den τ q (fun s => ownF Fs x s || aheadF Fs R x.dest i s)) (hn : ((putM l (.bool x.dest) (.int .i64 (q : Int))).map (·.1)).Nodup) : AheadM Fs R (i + 1) (putM l (.bool x.dest) (.int .i64 (q : Int))) τ := ⟨hn, fun d => by
  by_cases hd : x.dest = d
  · subst hd
    refine ⟨q, ?_, ?_⟩
    · rw [getM_put_same _ _ _ h.1]; rfl
    · rw [ahead_succ hx, if_pos rfl]; exact hq
  · obtain ⟨n, h1, h2⟩ := h.2 d
    refine ⟨n, ?_, ?_⟩
    · rw [getM_put_other _ _ _ (fun e => hd (by injection e with e; exact e.symm))]; exact h1
    · rw [ahead_succ hx, if_neg hd]; exact h2⟩
/-- What lint.Rewrites comes to. -/
def RwRes (Fs : List FiltV) (R : List RewV) (w : World) (e : Ending) (w' : World) : Prop :=
  Below w.heap.size w w' ∧ (e = .returned (.tuple #[.slice none 0 0, .int .i64 3]) ∨ ∃ (v : Value) (ns : List Nat), e = .returned (.tuple #[v, .int .i64 0]) ∧ w'.ownsRow w.heap.size 3 1 v ns.length (ncl ns) ∧ ns.length ≤ R.length ∧ ∀ k ∈ ns, ∃ x, R[k]? = some x ∧ ∀ s, ownF Fs x s = true → aheadF Fs R x.dest k s = true)
end Go.Proofs.YthhcaoljejifeaaGreat

/-
  The rewritings that are never done: lint.Rewrites (written by wip/gen/gentg6.py).
-/
namespace Go.Proofs.YthhcaoljejifeaaGreat
open Go Go.RowKit Go.ChangeMaps Go.MapKept Go.Maps Go.Lib Go.Sort

section
set_option maxRecDepth 100000
set_option maxHeartbeats 8000000
theorem zero_int (w : World) : (zeroValue 3).run Tryz.prog w = .ok (.int .i64 0) w := by kernel_rfl
theorem lintRewrites_any (w : World) (c0 c1 c2 c3 c6 c7 c8 c9 c10 c11 vF vR : Value) (Fs : List FiltV) (R : List RewV) (hF : FsAt w w.heap.size vF Fs) (hR : Rd w w.heap.size 3 vR R.length (wcells R)) (hok : ∀ f ∈ Fs, filtE f.L = 0) (h49 : (rulesOf Fs).length ≤ 49) (hR150 : R.length ≤ 150) (hF150 : Fs.length ≤ 150) :
    Calls Tryz.prog 7 #[.agg #[c0, c1, c2, c3, vF, vR, c6, c7, c8, c9, c10, c11]] w (RwRes Fs R w) := by
  obtain ⟨i0, hif, hz0, hz1, hz2⟩ := info_parts Tryz.infoInt
  obtain ⟨AF, cF, rfl, _⟩ := hF.1.form
  obtain ⟨AR, cR, rfl, _⟩ := hR.form
  have hbw := below1 w (.cells #[c0, c1, c2, c3, .slice AF Fs.length cF, .slice AR R.length cR, c6, c7, c8, c9, c10, c11] 33)
  have hbk := blk1 w (.cells #[c0, c1, c2, c3, .slice AF Fs.length cF, .slice AR R.length cR, c6, c7, c8, c9, c10, c11] 33)
  have HF := Lib.hid (hF.below hbw)
  have HR := Lib.hid (hR.below hbw)
  have HB0 := Lib.hid hbw
  have HK0 := Lib.hid hbk
  have HOK := Lib.hid hok
  have H49 := Lib.hid h49
  clear hF hR hbw hbk hok h49
  go_enter Tryz.func7, Tryz.ntmps7
  go_upto_region 1 with fail
  generalize w.alloc (.cells #[c0, c1, c2, c3, .slice AF Fs.length cF, .slice AR R.length cR, c6, c7, c8, c9, c10, c11] 33) = w0 at *
  have b4 : w0.cell? ⟨w.heap.size, 4, none⟩ = some (.slice AF Fs.length cF) := cell_of_row _ _ 4 _ _ (0, 0) HK0.out
  go_wp2_with fail
  go_loopw [25] (fun i wr => ∃ j : Nat, i = .int .i64 j ∧ j ≤ Fs.length ∧ Hid (Below w0.heap.size w0 wr)) (fun i _ => Fs.length - (intOf i).toNat)
  case atStart => exact ⟨0, rfl, by omega, Lib.hid (Below.refl _ _)⟩
  case round =>
    clear b4
    obtain ⟨j, rfl, hj, HB⟩ := hrel
    rename World => wr
    have hsz := HB.out.size
    have hwr : Below w.heap.size w0 wr := HB.out.mono HB0.out.size
    have HWR := Lib.hid hwr
    clear hwr
    by_cases hlt : j < Fs.length
    · have hI : (j : Int) < (Fs.length : Int) := by omega
      obtain ⟨f, hf⟩ : ∃ f, Fs[j]? = some f := ⟨_, List.getElem?_eq_getElem hlt⟩
      obtain ⟨b, off, c', hv, _, hbB, hcell⟩ := (HF.out.below HWR.out).1.posAt (by omega)
      injection hv with hv1 _ hv3
      subst hv1 hv3
      have f0 : wr.cell? ⟨b, off + j * 2, none⟩ = some (.string f.nm) := hcell j 0 _ (fcell hf rfl)
      have f1 : wr.cell? ⟨b, off + j * 2 + 1, none⟩ = some f.v := hcell j 1 _ (fcell hf rfl)
      have HFM := Lib.hid (List.mem_of_getElem? hf)
      have hrd := ((HF.out.below HWR.out).2 f HFM.out).1
      obtain ⟨Aq, cq, hvq, _⟩ := hrd.form
      rw [hvq] at hrd f1
      have HRD := Lib.hid hrd
      have HLB := Lib.hid (below1 wr (.cells #[.string f.nm, .slice Aq f.L.length cq] 54))
      clear hcell hf hrd hvq
      go_wp2_with fail
      have hck := filtCheck_any f.nm f.L (.slice Aq f.L.length cq) (wr.alloc (.cells #[.string f.nm, .slice Aq f.L.length cq] 54)) ((HRD.out.below (HLB.out.mono (Nat.le_trans HB0.out.size hsz))).mono (Nat.le_trans (Nat.le_trans HB0.out.size hsz) HLB.out.size))
      rw [HOK.out f HFM.out] at hck
      refine hck.mono ?_
      rintro e w2 ⟨rfl, hb2⟩
      have HB2 := Lib.hid (HB.out.trans ((HLB.out.trans (hb2.mono HLB.out.size)).mono hsz))
      clear hb2 hck HRD HLB f0 f1
      go_wp2
      first
        | exact ⟨⟨j + 1, by go_num, by omega, HB2⟩, by simp only [intOf]; omega⟩
        | (go_roundw
           case rel =>
             first
               | exact ⟨j + 1, by go_num, by omega, HB2⟩
               | (repeat apply Exists.intro); exact ⟨⟨j + 1, by go_num, by omega, HB2⟩, rfl⟩
           case measure =>
             change Fs.length - ((j : Int) + 1).toNat < Fs.length - (j : Int).toNat
             omega)
    · obtain rfl : j = Fs.length := by omega
      have hI : ¬ (Fs.length : Int) < (Fs.length : Int) := by omega
      have HNEW := Lib.hid (show Calls Tryz.prog 14 #[.int .i64 4194304] wr (fun e w' => ∃ (S km : Nat) (A : Blks), e = .returned (.tuple #[.pointer (some ⟨S, 0, none⟩), .int .i64 0]) ∧ SpAt w' wr.heap.size S km A 4194304 N0 [] [0, 1] [] ∧ Below wr.heap.size wr w' ∧ wr.heap.size ≤ S ∧ wr.heap.size ≤ km) from relNew_any wr 4194304 (Nat.le_refl _))
      have hmm := @run_makeMap Tryz.prog
      have b5 : wr.cell? ⟨w.heap.size, 5, none⟩ = some (.slice AR R.length cR) := cell_of_row _ _ 5 _ _ (0, 0) (blk_below HB.out HK0.out)
      have HHM := Lib.hid hmm
      clear hmm b5
      go_wp2_with fail
      refine HNEW.out.mono ?_
      rintro e w1 ⟨S, km, A, rfl, hs1, hb1, hS1, hkm1⟩
      have HS1 := Lib.hid hs1.newOk
      have HB1 := Lib.hid hb1
      have HLO := Lib.hid (And.intro hS1 hkm1)
      have b5 : (w1.alloc (.map #[] 0)).cell? ⟨w.heap.size, 5, none⟩ = some (.slice AR R.length cR) := cell_of_row _ _ 5 _ _ (0, 0) (blk_below (HB.out.trans ((HB1.out.trans ((below1 w1 (.map #[] 0)).mono HB1.out.size)).mono hsz)) HK0.out)
      have hmm := HHM.out
      clear hs1 hb1 hS1 hkm1 HNEW
      go_upto_region 11 with fail
      clear hmm
      have hbm := below1 w1 (.map #[] 0)
      have HST : Hid (RwS wr (w1.heap.size + 1) (w1.alloc (.map #[] 0)) wr.heap.size S km A newSg w1.heap.size [] (.slice none 0 0) []) := by
        have hkl := HS1.out.sp.fk.1
        have hSl := lt_of_block HS1.out.sp.cells
        refine ⟨HS1.out.below hbm, HB1.out.trans (hbm.mono HB1.out.size), World.ownsRow_nil _ _ _ _, fun g hg => by simp [Value.ownBlock] at hg, MapAt.made _ _ _, ⟨HS1.out.sp.ar.foreign_new hbm (Nat.le_refl _) (by simp), by omega, by omega⟩, by omega, HB1.out.size, HLO.out.2⟩
      have HBW := Lib.hid (hbm)
      have HAH : Hid (AheadM Fs R 0 [] newSg) := AheadM.start Fs R HS1.out.ok
      generalize hbq : w1.heap.size = bm at *
      clear hbm
      have HBQ := Lib.hid hbq
      clear hbq
      generalize w1.alloc (.map #[] 0) = wm at *
      go_wp2_with fail
      go_loopw [10, 43] (fun ov i wx => ∃ (j : Nat) (τ : Sg) (l : List (Value × Value)) (ns : List Nat), i = .int .i64 j ∧ j ≤ R.length ∧ Hid (RwS wr (bm + 1) wx wr.heap.size S km A τ bm l ov ns) ∧ Hid (AheadM Fs R j l τ) ∧ Hid (τ.N.length ≤ τ.H.length + (2 + j * 331240)) ∧ Hid (ns.length ≤ j ∧ ∀ k ∈ ns, ∃ x, R[k]? = some x ∧ ∀ s, ownF Fs x s = true → aheadF Fs R x.dest k s = true)) (fun _ i _ => R.length - (intOf i).toNat)
      case atStart => exact ⟨0, newSg, [], [], rfl, by omega, HST, HAH, Lib.hid (by show 2 ≤ 0 + (2 + 0 * 331240); omega), Lib.hid ⟨by simp, by simp⟩⟩
      case round =>
        clear HST HAH
        obtain ⟨j, τ, l, ns, rfl, hj, HST, HAH, HTN, HNS⟩ := hrel
        rename World => wx
        have hlow : Below w.heap.size w0 wx := (HB.out.trans (HST.out.low.mono hsz)).mono HB0.out.size
        have HLW := Lib.hid hlow
        clear hlow
        by_cases hlt : j < R.length
        · have hI : (j : Int) < (R.length : Int) := by omega
          obtain ⟨x, hx⟩ : ∃ x, R[j]? = some x := ⟨_, List.getElem?_eq_getElem hlt⟩
          obtain ⟨b, off, c', hv, _, hbB, hcell⟩ := (HR.out.below HLW.out).posAt (by omega)
          injection hv with hv1 _ hv3
          subst hv1 hv3
          have r0 : wx.cell? ⟨b, off + j * 3, none⟩ = some (.bool x.dest) := hcell j 0 _ (wcell hx rfl)
          have r1 : wx.cell? ⟨b, off + j * 3 + 1, none⟩ = some (.string x.nm) := hcell j 1 _ (wcell hx rfl)
          have r2 : wx.cell? ⟨b, off + j * 3 + 2, none⟩ = some (.int .u32 x.too) := hcell j 2 _ (wcell hx rfl)
          have HX := Lib.hid hx
          clear hcell hx
          go_upto_region 14 with fail
          have hb3 := below1 wx (.cells #[.bool x.dest, .string x.nm, .int .u32 x.too] 45)
          have hk3 := blk1 wx (.cells #[.bool x.dest, .string x.nm, .int .u32 x.too] 45)
          have HR3 := Lib.hid (HST.out.below hb3)
          have HB3 := Lib.hid hb3
          have HB3B := Lib.hid ((HB.out.trans (HST.out.low.mono hsz)).trans (hb3.mono (show w0.heap.size ≤ wx.heap.size from Nat.le_trans hsz HST.out.low.size)))
          have HLW3 := Lib.hid (HLW.out.trans (hb3.mono (show w.heap.size ≤ wx.heap.size from Nat.le_trans HB0.out.size HLW.out.size)))
          have HK3 := Lib.hid hk3
          have HOVX : Hid (∀ g, u10.ownBlock = some g → g ≠ wx.heap.size) := Lib.hid fun g hg => by have := (HST.out.out.lt g hg).2; omega
          have HFX : Hid ((wx.alloc (.cells #[.bool x.dest, .string x.nm, .int .u32 x.too] 45)).heap[wx.heap.size]? = some (.cells #[.bool x.dest, .string x.nm, .int .u32 x.too] 45 (0, 0)) ∧ Foreign A (wx.alloc (.cells #[.bool x.dest, .string x.nm, .int .u32 x.too] 45)) wx.heap.size ∧ wx.heap.size ≠ km) := Lib.hid ⟨hk3, HST.out.sp.sp.ar.foreign_new hb3 (Nat.le_refl _) (lt_of_block hk3), by have := HST.out.sp.sp.fk.1; omega⟩
          clear r0 r1 r2 hb3 hk3
          generalize hbx : wx.heap.size = bx at *
          generalize wx.alloc (.cells #[.bool x.dest, .string x.nm, .int .u32 x.too] 45) = w3 at *
          have d0 : w3.cell? ⟨bx, 0, none⟩ = some (.bool x.dest) := cell_of_row _ _ 0 _ _ (0, 0) HK3.out
          have d1 : w3.cell? ⟨bx, 1, none⟩ = some (.string x.nm) := cell_of_row _ _ 1 _ _ (0, 0) HK3.out
          have HDL := Lib.hid ((Dep.own Fs x).op2 (fun a b => a && !b) (Dep.ahead Fs R x.dest j))
          have HDO := Lib.hid ((Dep.own Fs x).op2 (fun a b => a || b) (Dep.ahead Fs R x.dest j))
          by_cases hns : x.nm.toList = []
          · have HRQ := HR3
            have HAQ := HAH
            have HDQ : Hid (Den τ 1 (ownF Fs x)) := Lib.hid (by
              have := Den.one HR3.out.sp.ok
              rw [show ownF Fs x = fun _ => true from by unfold ownF; rw [if_pos hns]]
              exact this)
            have HTQ : Hid (τ.N.length ≤ τ.H.length + (2 + j * 331240 + 331240)) := Lib.hid (by have := HTN.out; omega)
            have HBX := HFX
            have hm1 : (x.nm.toList == []) = true := by simp [hns]
            clear HR3 HAH HTN HFX HK3 d0 hns
            obtain ⟨n, hgn, hdn⟩ := HAQ.out.2 x.dest
            obtain ⟨kl, hkl⟩ := key_bool x.dest
            have lk : (Instr.lookup 79 (.map (some bm)) (.bool x.dest) false).run Tryz.prog w3 = .ok (.int .i64 (n : Int)) w3 := by
              have := HRQ.out.map.look boolK Tryz.underlying79 (zero_int w3) false hkl
              simp only [Bool.false_eq_true, if_false] at this
              rw [hgn] at this
              exact this
            have HDN := Lib.hid hdn
            have HGN := Lib.hid hgn
            have HKL := Lib.hid hkl
            have d0 : w3.cell? ⟨bx, 0, none⟩ = some (.bool x.dest) := cell_of_row _ _ 0 _ _ (0, 0) HBX.out.1
            have hroom : τ.N.length ≤ 4194304 + (2 + j * 331240 + 331240) := by
              have h1 := HRQ.out.sp.ok.mo
              exact Nat.le_trans HTQ.out (Nat.add_le_add_right h1 _)
            have hj150 : j * 331240 ≤ 150 * 331240 := Nat.mul_le_mul_right _ (by omega)
            have hcw := bW_49 H49.out
            have hLE := slim_call HRQ.out.sp (Grow.widB (H := τ.H) HRQ.out.sp.ok.wf.two (HDL.out.wid (rulesOf_ok HOK.out))) fun k hk hg => relLess_yes HRQ.out.sp HDQ.out hdn (own_set Fs x) (ahead_set Fs R x.dest j) (a := k) (b := bW (rulesOf Fs).length) hg (by omega)
            have HLE := Lib.hid hLE
            have HRM := Lib.hid (And.intro hroom (And.intro hj150 hcw))
            clear hgn hdn hkl hroom hj150 hcw hLE
            go_wp2_with fail
            refine HLE.out.mono ?_
            rintro e w7 hr7
            obtain ⟨q7, c7, he7⟩ := hr7.form
            subst he7
            have HK7 := Lib.hid hr7.1
            have HBX7 : Hid (w7.heap[bx]? = some (.cells #[.bool x.dest, .string x.nm, .int .u32 x.too] 45 (0, 0)) ∧ Foreign A w7 bx ∧ bx ≠ km) := ⟨(hr7.1.same bx HBX.out.2.1 HBX.out.2.2).1.trans HBX.out.1, (hr7.1.same bx HBX.out.2.1 HBX.out.2.2).2, HBX.out.2.2⟩
            clear lk d0 HLE
            rcases hr7.two with ⟨rfl, rfl, _, τ7, hs7, ht7⟩ | ⟨r7, τ7, rfl, rfl, hs7, ht7, hd7, hsl7⟩
            · have HR7 := Lib.hid (HRQ.out.space hr7.1 hs7)
              have HA7 := Lib.hid (HAQ.out.to ht7 HRQ.out.sp.ok hs7.ok)
              have HD7 := Lib.hid (HDQ.out.to ht7 HRQ.out.sp.ok hs7.ok)
              have HN7 := Lib.hid (HDN.out.to ht7 HRQ.out.sp.ok hs7.ok)
              have hnl7 := ht7.nl
              have lk : (Instr.lookup 79 (.map (some bm)) (.bool x.dest) false).run Tryz.prog w7 = .ok (.int .i64 (n : Int)) w7 := by
                have := HR7.out.map.look boolK Tryz.underlying79 (zero_int w7) false HKL.out
                simp only [Bool.false_eq_true, if_false] at this
                rw [HGN.out] at this
                exact this
              have d0 : w7.cell? ⟨bx, 0, none⟩ = some (.bool x.dest) := cell_of_row _ _ 0 _ _ (0, 0) HBX7.out.1
              have hrm := HRM.out
              have HOR := Lib.hid (relOr_yes hs7 HD7.out HN7.out (own_set Fs x) (ahead_set Fs R x.dest j) (a := bW (rulesOf Fs).length) (b := bW (rulesOf Fs).length) (Grow.widB hs7.ok.wf.two (HDO.out.wid (rulesOf_ok HOK.out))) (by omega))
              clear hs7 ht7 hr7 hnl7 hrm HRQ HAQ HDQ HDN HBX HTQ
              go_wp2_with fail
              refine HOR.out.mono ?_
              rintro e w8 hr8
              obtain ⟨q8, c8, he8⟩ := hr8.form
              subst he8
              have HBE : Hid (Below w.heap.size w w8) := Lib.hid (HB0.out.trans (((HB.out.trans (HR7.out.low.mono hsz)).mono HB0.out.size).trans ((HR7.out.sp.low HR7.out.bml.2.2 hr8.1).mono (Nat.le_trans HB0.out.size hsz))))
              clear hr8 HOR lk d0
              go_wp2
              go_ret2
              exact ⟨HBE.out, .inl rfl⟩
            · have HR7 := Lib.hid (HRQ.out.space hr7.1 hs7)
              have HA7 := Lib.hid (HAQ.out.to ht7 HRQ.out.sp.ok hs7.ok)
              have HD7 := Lib.hid (HDQ.out.to ht7 HRQ.out.sp.ok hs7.ok)
              have HN7 := Lib.hid (HDN.out.to ht7 HRQ.out.sp.ok hs7.ok)
              have hnl7 := ht7.nl
              have lk : (Instr.lookup 79 (.map (some bm)) (.bool x.dest) false).run Tryz.prog w7 = .ok (.int .i64 (n : Int)) w7 := by
                have := HR7.out.map.look boolK Tryz.underlying79 (zero_int w7) false HKL.out
                simp only [Bool.false_eq_true, if_false] at this
                rw [HGN.out] at this
                exact this
              have d0 : w7.cell? ⟨bx, 0, none⟩ = some (.bool x.dest) := cell_of_row _ _ 0 _ _ (0, 0) HBX7.out.1
              have hrm := HRM.out
              have HT7 : Hid (τ7.N.length ≤ τ7.H.length + (2 + j * 331240 + 331240)) := Lib.hid (by
                have h2 := HTQ.out
                have h3 := hsl7
                unfold Sl at h3
                omega)
              have hro7 : τ7.N.length ≤ 4194304 + (2 + j * 331240 + 331240) := Nat.le_trans HT7.out (Nat.add_le_add_right hs7.ok.mo _)
              have HDL7 := Lib.hid hd7
              have HS7 := Lib.hid hs7
              have HOR := Lib.hid (slim_call hs7 (Grow.widB (H := τ7.H) hs7.ok.wf.two (HDO.out.wid (rulesOf_ok HOK.out))) fun k hk hg => relOr_yes hs7 HD7.out HN7.out (own_set Fs x) (ahead_set Fs R x.dest j) (a := k) (b := bW (rulesOf Fs).length) hg (by omega))
              clear hs7 ht7 hr7 hnl7 hrm hd7 hsl7 hro7 HRQ HAQ HDQ HDN HBX HTQ
              go_wp2_with fail
              refine HOR.out.mono ?_
              rintro e w8 hr8
              obtain ⟨q8, c8, he8⟩ := hr8.form
              subst he8
              have HBE : Hid (Below w.heap.size w w8) := Lib.hid (HB0.out.trans (((HB.out.trans (HR7.out.low.mono hsz)).mono HB0.out.size).trans ((HR7.out.sp.low HR7.out.bml.2.2 hr8.1).mono (Nat.le_trans HB0.out.size hsz))))
              have d8 : w8.cell? ⟨bx, 0, none⟩ = some (.bool x.dest) := cell_of_row _ _ 0 _ _ (0, 0) ((hr8.1.same bx HBX7.out.2.1 HBX7.out.2.2).1.trans HBX7.out.1)
              have HBX8 : Hid (w8.heap[bx]? = some (.cells #[.bool x.dest, .string x.nm, .int .u32 x.too] 45 (0, 0))) := Lib.hid ((hr8.1.same bx HBX7.out.2.1 HBX7.out.2.2).1.trans HBX7.out.1)
              clear HOR lk d0
              rcases hr8.two with ⟨rfl, rfl, _, τ8, hs8, ht8⟩ | ⟨r8, τ8, rfl, rfl, hs8, ht8, hd8, hsl8⟩
              · clear hr8 hs8 ht8 d8
                go_wp2
                go_ret2
                exact ⟨HBE.out, .inl rfl⟩
              · have HR8 := Lib.hid (HR7.out.space hr8.1 hs8)
                have HA8 := Lib.hid (HA7.out.to ht8 HS7.out.ok hs8.ok)
                have HD8 := Lib.hid hd8
                have HTJ : Hid (τ8.N.length ≤ τ8.H.length + (2 + (j + 1) * 331240)) := Lib.hid (by
                  have h2 := HT7.out
                  have h3 := hsl8
                  unfold Sl at h3
                  omega)
                have HZ : Hid (r7 = 0 → ∀ s, ownF Fs x s = true → aheadF Fs R x.dest j s = true) := Lib.hid fun h0 s hs => by
                  subst h0
                  have h1 : ev τ7.N s 0 = (ownF Fs x s && !aheadF Fs R x.dest j s) := HDL7.out.2 s
                  rw [ev_zero, hs] at h1
                  simpa using h1.symm
                have hmm8 := HR8.out.map
                have HM8 := Lib.hid hmm8
                have hbs : bm + 1 ≤ w8.heap.size := HR8.out.mapf.1.1
                have hnsl : ns.length ≤ 1099511627776 := by have := HNS.out.1; omega
                clear hs8 ht8 hd8 hsl8 hr8 HS7 HR7 HA7 HD7 HN7 HT7 hmm8
                by_cases hz : r7 = 0
                · subst hz
                  have HPJ : Hid ((ns ++ [j]).length ≤ j + 1 ∧ ∀ k ∈ ns ++ [j], ∃ x, R[k]? = some x ∧ ∀ s, ownF Fs x s = true → aheadF Fs R x.dest k s = true) := Lib.hid ⟨by have := HNS.out.1; simp; omega, fun k hk => by
                    rcases List.mem_append.1 hk with hk | hk
                    · exact HNS.out.2 k hk
                    · rw [List.mem_singleton.1 hk]
                      exact ⟨x, HX.out, HZ.out rfl⟩⟩
                  go_wp2_with (first | (at_builtin; refine wpList_push2 rfl _ _ 37 rfl 3 i0 _ 1 8 Tryz.underlying37 hif hz0 hz1 hz2 rfl (by decide) (by decide) [.int .i64 j] rfl rfl rfl HR8.out.out rfl (one_i64 _) hnsl hbs ?_; intro v9 w9 ho9 hg9 hm9; have HR9 := Lib.hid (HR8.out.push (n := j) ho9 hg9 hm9); have d9 : w9.cell? ⟨bx, 0, none⟩ = some (.bool x.dest) := (World.cell?_of_block (a := ⟨bx, 0, none⟩) (hg9.block bx (lt_of_block HBX8.out) (fun e => HOVX.out bx e.symm rfl))).trans d8; clear ho9 hg9 hm9) | (refine wpList_mapAt rfl _ _ _ 79 3 rfl boolK Tryz.underlying79 rfl (show MapAt _ _ w9 _ _ from HR9.out.map) (.bool x.dest) (.int .i64 r8) kl rfl rfl HKL.out ?_; intro w10 hm10 hg10; have HR10 := Lib.hid (HR9.out.put hm10 hg10)))
                  have HA10 : Hid (AheadM Fs R (j + 1) (putM l (.bool x.dest) (.int .i64 (r8 : Int))) τ8) := Lib.hid (HA8.out.put HX.out HD8.out (by obtain ⟨_, _, _, _, _, hn⟩ := hm10; exact hn))
                  clear hm10 hg10 d9 HR9 HM8 HR8
                  first
                    | exact ⟨⟨j + 1, τ8, putM l (.bool x.dest) (.int .i64 (r8 : Int)), ns ++ [j], by go_num, by omega, HR10, HA10, HTJ, HPJ⟩, by simp only [intOf]; omega⟩
                    | (go_roundw
                       case rel =>
                         first
                           | exact ⟨j + 1, τ8, putM l (.bool x.dest) (.int .i64 (r8 : Int)), ns ++ [j], by go_num, by omega, HR10, HA10, HTJ, HPJ⟩
                           | (repeat apply Exists.intro); exact ⟨⟨j + 1, τ8, putM l (.bool x.dest) (.int .i64 (r8 : Int)), ns ++ [j], by go_num, by omega, HR10, HA10, HTJ, HPJ⟩, rfl⟩
                       case measure =>
                         change R.length - ((j : Int) + 1).toNat < R.length - (j : Int).toNat
                         omega)
                · have hz2 : ((r7 : Int) == 0) = false := by simpa using hz
                  have HPJ : Hid (ns.length ≤ j + 1 ∧ ∀ k ∈ ns, ∃ x, R[k]? = some x ∧ ∀ s, ownF Fs x s = true → aheadF Fs R x.dest k s = true) := Lib.hid ⟨by have := HNS.out.1; omega, HNS.out.2⟩
                  go_wp2_with (refine wpList_mapAt rfl _ _ _ 79 3 rfl boolK Tryz.underlying79 rfl (show MapAt _ _ w8 _ _ from HM8.out) (.bool x.dest) (.int .i64 r8) kl rfl rfl HKL.out ?_; intro w10 hm10 hg10; have HR10 := Lib.hid (HR8.out.put hm10 hg10))
                  have HA10 : Hid (AheadM Fs R (j + 1) (putM l (.bool x.dest) (.int .i64 (r8 : Int))) τ8) := Lib.hid (HA8.out.put HX.out HD8.out (by obtain ⟨_, _, _, _, _, hn⟩ := hm10; exact hn))
                  clear hm10 hg10 HM8 HR8
                  first
                    | exact ⟨⟨j + 1, τ8, putM l (.bool x.dest) (.int .i64 (r8 : Int)), ns, by go_num, by omega, HR10, HA10, HTJ, HPJ⟩, by simp only [intOf]; omega⟩
                    | (go_roundw
                       case rel =>
                         first
                           | exact ⟨j + 1, τ8, putM l (.bool x.dest) (.int .i64 (r8 : Int)), ns, by go_num, by omega, HR10, HA10, HTJ, HPJ⟩
                           | (repeat apply Exists.intro); exact ⟨⟨j + 1, τ8, putM l (.bool x.dest) (.int .i64 (r8 : Int)), ns, by go_num, by omega, HR10, HA10, HTJ, HPJ⟩, rfl⟩
                       case measure =>
                         change R.length - ((j : Int) + 1).toNat < R.length - (j : Int).toNat
                         omega)
          · have hm1 : (x.nm.toList == []) = false := by simp [hns]
            have b4 : w3.cell? ⟨w.heap.size, 4, none⟩ = some (.slice AF Fs.length cF) := cell_of_row _ _ 4 _ _ (0, 0) ((HB3B.out.block _ (lt_of_block HK0.out)).trans HK0.out)
            have HNSN := Lib.hid hns
            clear hns
            have hfs : FsAt w3 w3.heap.size (.slice AF Fs.length cF) Fs := (HF.out.below HLW3.out).mono (Nat.le_trans HB0.out.size HLW3.out.size)
            have HNM := Lib.hid (fnamed_any Fs (.slice AF Fs.length cF) x.nm w3 hfs (by omega))
            clear hfs
            go_wp2_with fail
            refine HNM.out.mono ?_
            rintro e w4 ⟨A4, c4, rfl, hrd4, hb4, hnew4⟩
            have hown : ownF Fs x = setF (fndL Fs x.nm) (fndL Fs x.nm).length := by unfold ownF; rw [if_neg HNSN.out]
            obtain ⟨L, hL⟩ : ∃ L, L = fndL Fs x.nm := ⟨_, rfl⟩
            have hLe := fndL_e HOK.out x.nm
            have hLl := Nat.le_trans (fndL_len (Fs := Fs) x.nm) H49.out
            rw [← hL] at hrd4 hnew4 hown hLe hLl
            generalize hnq : fndNm Fs x.nm = nq at *
            rw [← hL]
            have HOWN := Lib.hid hown
            have HLE := Lib.hid (And.intro hLe hLl)
            have hrf : RdF A km w4 10 (.slice A4 L.length c4) L.length (rcells L) := by
              obtain ⟨P4, c4', hv, hc, hl4, hp⟩ := hrd4
              injection hv with h1 _ h3
              subst h1 h3
              refine ⟨A4, c4, rfl, hc, hl4, fun hn => ?_⟩
              obtain ⟨b4', off4, hA4, hlt4, hcell4⟩ := hp hn
              obtain ⟨b5', off5, hA5, hge5⟩ := hnew4 hn
              rw [hA4] at hA5
              injection hA5 with hA5
              injection hA5 with hA5 _
              subst hA5
              exact ⟨b4', off4, hA4, HR3.out.sp.sp.ar.foreign_new hb4 hge5 hlt4, by have := HR3.out.sp.sp.fk.1; omega, hcell4⟩
            have HRF := Lib.hid hrf
            have HR4 := Lib.hid (HR3.out.below hb4)
            have HFX4 : Hid (w4.heap[bx]? = some (.cells #[.bool x.dest, .string x.nm, .int .u32 x.too] 45 (0, 0)) ∧ Foreign A w4 bx ∧ bx ≠ km) := ⟨blk_below hb4 HFX.out.1, ((HR3.out.sp.kept hb4).same bx HFX.out.2.1 HFX.out.2.2).2, HFX.out.2.2⟩
            have hb5 := below1 w4 (.cells #[.string nq, .slice A4 L.length c4] 54)
            have HK45 := Lib.hid (HR4.out.sp.kept hb5)
            have HR5 := Lib.hid (HR4.out.below hb5)
            have HRF5 := Lib.hid (HRF.out.kept HK45.out)
            have HFX5 : Hid ((w4.alloc (.cells #[.string nq, .slice A4 L.length c4] 54)).heap[bx]? = some (.cells #[.bool x.dest, .string x.nm, .int .u32 x.too] 45 (0, 0)) ∧ Foreign A (w4.alloc (.cells #[.string nq, .slice A4 L.length c4] 54)) bx ∧ bx ≠ km) := ⟨blk_below hb5 HFX4.out.1, (HK45.out.same bx HFX4.out.2.1 HFX4.out.2.2).2, HFX4.out.2.2⟩
            have hset := set_t HR5.out.sp nq L (.slice A4 L.length c4) HRF5.out HLE.out.1 (fun k => bW (k + 1)) (fun k => bW (k + 1)) (fun k => bW (k + 1)) (fun k r hk => ⟨.inl (dec_w (rule_may HLE.out.1).2 (List.getElem?_eq_some_iff.1 hk).1), .inl (left_w (rule_may HLE.out.1).2 (List.getElem?_eq_some_iff.1 hk).1)⟩) (fun k hk => .inl (set_w (rule_may HLE.out.1).2 hk)) 94090824 (2 + j * 331240) HTN.out (fun k hk => ⟨bW_49 (by have := HLE.out.2; omega), bW_49 (by have := HLE.out.2; omega), bW_49 (by have := HLE.out.2; omega)⟩) (by
              have h1 := HLE.out.2
              have h2 : j * 331240 ≤ 150 * 331240 := Nat.mul_le_mul_right _ (by omega)
              have h3 : 6760 * L.length ≤ 6760 * 49 := Nat.mul_le_mul_left _ h1
              exact Nat.le_trans (Nat.add_le_add (Nat.add_le_add (Nat.add_le_add (Nat.le_refl 4194304) (Nat.add_le_add (Nat.le_refl 2) h2)) h3) (Nat.le_refl (6760 + 94090824))) (by decide))
            have HSET := Lib.hid hset
            clear hrd4 hb4 hnew4 hrf hown hL hLe hLl hb5 hset HR3 HFX HK3 HRF HR4 HFX4 HK45 HRF5 HNM d0 b4
            go_wp2_with fail
            generalize w4.alloc (.cells #[.string nq, .slice A4 L.length c4] 54) = w5 at *
            refine HSET.out.mono ?_
            rintro e w6 ⟨hk6, hres⟩
            have HBE6 : Hid (Below w.heap.size w w6) := Lib.hid (HB0.out.trans (((HB.out.trans (HR5.out.low.mono hsz)).mono HB0.out.size).trans ((HR5.out.sp.low HR5.out.bml.2.2 hk6).mono (Nat.le_trans HB0.out.size hsz))))
            rcases hres with ⟨rfl, _, τ6, hs6, ht6⟩ | ⟨q, τ6, rfl, hs6, ht6, hd6, _, _, _, hsl6⟩
            · clear hk6 hs6 ht6 HSET
              go_wp2
              go_ret2
              exact ⟨HBE6.out, .inl rfl⟩
            · have HRQ := Lib.hid (HR5.out.space hk6 hs6)
              have HAQ := Lib.hid (HAH.out.to ht6 HR5.out.sp.ok hs6.ok)
              have HDQ : Hid (Den τ6 q (ownF Fs x)) := Lib.hid (by rw [HOWN.out]; exact hd6)
              have HTQ : Hid (τ6.N.length ≤ τ6.H.length + (2 + j * 331240 + 331240)) := Lib.hid (by
                have h1 := HTN.out
                have h2 := hsl6
                have h3 := HLE.out.2
                unfold Sl at h2
                omega)
              have HBX : Hid (w6.heap[bx]? = some (.cells #[.bool x.dest, .string x.nm, .int .u32 x.too] 45 (0, 0)) ∧ Foreign A w6 bx ∧ bx ≠ km) := ⟨(hk6.same bx HFX5.out.2.1 HFX5.out.2.2).1.trans HFX5.out.1, (hk6.same bx HFX5.out.2.1 HFX5.out.2.2).2, HFX5.out.2.2⟩
              clear hk6 hs6 ht6 hd6 hsl6 HSET HR5 HAH HTN HFX5 HOWN
              obtain ⟨n, hgn, hdn⟩ := HAQ.out.2 x.dest
              obtain ⟨kl, hkl⟩ := key_bool x.dest
              have lk : (Instr.lookup 79 (.map (some bm)) (.bool x.dest) false).run Tryz.prog w6 = .ok (.int .i64 (n : Int)) w6 := by
                have := HRQ.out.map.look boolK Tryz.underlying79 (zero_int w6) false hkl
                simp only [Bool.false_eq_true, if_false] at this
                rw [hgn] at this
                exact this
              have HDN := Lib.hid hdn
              have HGN := Lib.hid hgn
              have HKL := Lib.hid hkl
              have d0 : w6.cell? ⟨bx, 0, none⟩ = some (.bool x.dest) := cell_of_row _ _ 0 _ _ (0, 0) HBX.out.1
              have hroom : τ6.N.length ≤ 4194304 + (2 + j * 331240 + 331240) := by
                have h1 := HRQ.out.sp.ok.mo
                exact Nat.le_trans HTQ.out (Nat.add_le_add_right h1 _)
              have hj150 : j * 331240 ≤ 150 * 331240 := Nat.mul_le_mul_right _ (by omega)
              have hcw := bW_49 H49.out
              have hLE := slim_call HRQ.out.sp (Grow.widB (H := τ6.H) HRQ.out.sp.ok.wf.two (HDL.out.wid (rulesOf_ok HOK.out))) fun k hk hg => relLess_yes HRQ.out.sp HDQ.out hdn (own_set Fs x) (ahead_set Fs R x.dest j) (a := k) (b := bW (rulesOf Fs).length) hg (by omega)
              have HLE := Lib.hid hLE
              have HRM := Lib.hid (And.intro hroom (And.intro hj150 hcw))
              clear hgn hdn hkl hroom hj150 hcw hLE
              go_wp2_with fail
              refine HLE.out.mono ?_
              rintro e w7 hr7
              obtain ⟨q7, c7, he7⟩ := hr7.form
              subst he7
              have HK7 := Lib.hid hr7.1
              have HBX7 : Hid (w7.heap[bx]? = some (.cells #[.bool x.dest, .string x.nm, .int .u32 x.too] 45 (0, 0)) ∧ Foreign A w7 bx ∧ bx ≠ km) := ⟨(hr7.1.same bx HBX.out.2.1 HBX.out.2.2).1.trans HBX.out.1, (hr7.1.same bx HBX.out.2.1 HBX.out.2.2).2, HBX.out.2.2⟩
              clear lk d0 HLE
              rcases hr7.two with ⟨rfl, rfl, _, τ7, hs7, ht7⟩ | ⟨r7, τ7, rfl, rfl, hs7, ht7, hd7, hsl7⟩
              · have HR7 := Lib.hid (HRQ.out.space hr7.1 hs7)
                have HA7 := Lib.hid (HAQ.out.to ht7 HRQ.out.sp.ok hs7.ok)
                have HD7 := Lib.hid (HDQ.out.to ht7 HRQ.out.sp.ok hs7.ok)
                have HN7 := Lib.hid (HDN.out.to ht7 HRQ.out.sp.ok hs7.ok)
                have hnl7 := ht7.nl
                have lk : (Instr.lookup 79 (.map (some bm)) (.bool x.dest) false).run Tryz.prog w7 = .ok (.int .i64 (n : Int)) w7 := by
                  have := HR7.out.map.look boolK Tryz.underlying79 (zero_int w7) false HKL.out
                  simp only [Bool.false_eq_true, if_false] at this
                  rw [HGN.out] at this
                  exact this
                have d0 : w7.cell? ⟨bx, 0, none⟩ = some (.bool x.dest) := cell_of_row _ _ 0 _ _ (0, 0) HBX7.out.1
                have hrm := HRM.out
                have HOR := Lib.hid (relOr_yes hs7 HD7.out HN7.out (own_set Fs x) (ahead_set Fs R x.dest j) (a := bW (rulesOf Fs).length) (b := bW (rulesOf Fs).length) (Grow.widB hs7.ok.wf.two (HDO.out.wid (rulesOf_ok HOK.out))) (by omega))
                clear hs7 ht7 hr7 hnl7 hrm HRQ HAQ HDQ HDN HBX HTQ
                go_wp2_with fail
                refine HOR.out.mono ?_
                rintro e w8 hr8
                obtain ⟨q8, c8, he8⟩ := hr8.form
                subst he8
                have HBE : Hid (Below w.heap.size w w8) := Lib.hid (HB0.out.trans (((HB.out.trans (HR7.out.low.mono hsz)).mono HB0.out.size).trans ((HR7.out.sp.low HR7.out.bml.2.2 hr8.1).mono (Nat.le_trans HB0.out.size hsz))))
                clear hr8 HOR lk d0
                go_wp2
                go_ret2
                exact ⟨HBE.out, .inl rfl⟩
              · have HR7 := Lib.hid (HRQ.out.space hr7.1 hs7)
                have HA7 := Lib.hid (HAQ.out.to ht7 HRQ.out.sp.ok hs7.ok)
                have HD7 := Lib.hid (HDQ.out.to ht7 HRQ.out.sp.ok hs7.ok)
                have HN7 := Lib.hid (HDN.out.to ht7 HRQ.out.sp.ok hs7.ok)
                have hnl7 := ht7.nl
                have lk : (Instr.lookup 79 (.map (some bm)) (.bool x.dest) false).run Tryz.prog w7 = .ok (.int .i64 (n : Int)) w7 := by
                  have := HR7.out.map.look boolK Tryz.underlying79 (zero_int w7) false HKL.out
                  simp only [Bool.false_eq_true, if_false] at this
                  rw [HGN.out] at this
                  exact this
                have d0 : w7.cell? ⟨bx, 0, none⟩ = some (.bool x.dest) := cell_of_row _ _ 0 _ _ (0, 0) HBX7.out.1
                have hrm := HRM.out
                have HT7 : Hid (τ7.N.length ≤ τ7.H.length + (2 + j * 331240 + 331240)) := Lib.hid (by
                  have h2 := HTQ.out
                  have h3 := hsl7
                  unfold Sl at h3
                  omega)
                have hro7 : τ7.N.length ≤ 4194304 + (2 + j * 331240 + 331240) := Nat.le_trans HT7.out (Nat.add_le_add_right hs7.ok.mo _)
                have HDL7 := Lib.hid hd7
                have HS7 := Lib.hid hs7
                have HOR := Lib.hid (slim_call hs7 (Grow.widB (H := τ7.H) hs7.ok.wf.two (HDO.out.wid (rulesOf_ok HOK.out))) fun k hk hg => relOr_yes hs7 HD7.out HN7.out (own_set Fs x) (ahead_set Fs R x.dest j) (a := k) (b := bW (rulesOf Fs).length) hg (by omega))
                clear hs7 ht7 hr7 hnl7 hrm hd7 hsl7 hro7 HRQ HAQ HDQ HDN HBX HTQ
                go_wp2_with fail
                refine HOR.out.mono ?_
                rintro e w8 hr8
                obtain ⟨q8, c8, he8⟩ := hr8.form
                subst he8
                have HBE : Hid (Below w.heap.size w w8) := Lib.hid (HB0.out.trans (((HB.out.trans (HR7.out.low.mono hsz)).mono HB0.out.size).trans ((HR7.out.sp.low HR7.out.bml.2.2 hr8.1).mono (Nat.le_trans HB0.out.size hsz))))
                have d8 : w8.cell? ⟨bx, 0, none⟩ = some (.bool x.dest) := cell_of_row _ _ 0 _ _ (0, 0) ((hr8.1.same bx HBX7.out.2.1 HBX7.out.2.2).1.trans HBX7.out.1)
                have HBX8 : Hid (w8.heap[bx]? = some (.cells #[.bool x.dest, .string x.nm, .int .u32 x.too] 45 (0, 0))) := Lib.hid ((hr8.1.same bx HBX7.out.2.1 HBX7.out.2.2).1.trans HBX7.out.1)
                clear HOR lk d0
                rcases hr8.two with ⟨rfl, rfl, _, τ8, hs8, ht8⟩ | ⟨r8, τ8, rfl, rfl, hs8, ht8, hd8, hsl8⟩
                · clear hr8 hs8 ht8 d8
                  go_wp2
                  go_ret2
                  exact ⟨HBE.out, .inl rfl⟩
                · have HR8 := Lib.hid (HR7.out.space hr8.1 hs8)
                  have HA8 := Lib.hid (HA7.out.to ht8 HS7.out.ok hs8.ok)
                  have HD8 := Lib.hid hd8
                  have HTJ : Hid (τ8.N.length ≤ τ8.H.length + (2 + (j + 1) * 331240)) := Lib.hid (by
                    have h2 := HT7.out
                    have h3 := hsl8
                    unfold Sl at h3
                    omega)
                  have HZ : Hid (r7 = 0 → ∀ s, ownF Fs x s = true → aheadF Fs R x.dest j s = true) := Lib.hid fun h0 s hs => by
                    subst h0
                    have h1 : ev τ7.N s 0 = (ownF Fs x s && !aheadF Fs R x.dest j s) := HDL7.out.2 s
                    rw [ev_zero, hs] at h1
                    simpa using h1.symm
                  have hmm8 := HR8.out.map
                  have HM8 := Lib.hid hmm8
                  have hbs : bm + 1 ≤ w8.heap.size := HR8.out.mapf.1.1
                  have hnsl : ns.length ≤ 1099511627776 := by have := HNS.out.1; omega
                  clear hs8 ht8 hd8 hsl8 hr8 HS7 HR7 HA7 HD7 HN7 HT7 hmm8
                  by_cases hz : r7 = 0
                  · subst hz
                    have HPJ : Hid ((ns ++ [j]).length ≤ j + 1 ∧ ∀ k ∈ ns ++ [j], ∃ x, R[k]? = some x ∧ ∀ s, ownF Fs x s = true → aheadF Fs R x.dest k s = true) := Lib.hid ⟨by have := HNS.out.1; simp; omega, fun k hk => by
                      rcases List.mem_append.1 hk with hk | hk
                      · exact HNS.out.2 k hk
                      · rw [List.mem_singleton.1 hk]
                        exact ⟨x, HX.out, HZ.out rfl⟩⟩
                    go_wp2_with (first | (at_builtin; refine wpList_push2 rfl _ _ 37 rfl 3 i0 _ 1 8 Tryz.underlying37 hif hz0 hz1 hz2 rfl (by decide) (by decide) [.int .i64 j] rfl rfl rfl HR8.out.out rfl (one_i64 _) hnsl hbs ?_; intro v9 w9 ho9 hg9 hm9; have HR9 := Lib.hid (HR8.out.push (n := j) ho9 hg9 hm9); have d9 : w9.cell? ⟨bx, 0, none⟩ = some (.bool x.dest) := (World.cell?_of_block (a := ⟨bx, 0, none⟩) (hg9.block bx (lt_of_block HBX8.out) (fun e => HOVX.out bx e.symm rfl))).trans d8; clear ho9 hg9 hm9) | (refine wpList_mapAt rfl _ _ _ 79 3 rfl boolK Tryz.underlying79 rfl (show MapAt _ _ w9 _ _ from HR9.out.map) (.bool x.dest) (.int .i64 r8) kl rfl rfl HKL.out ?_; intro w10 hm10 hg10; have HR10 := Lib.hid (HR9.out.put hm10 hg10)))
                    have HA10 : Hid (AheadM Fs R (j + 1) (putM l (.bool x.dest) (.int .i64 (r8 : Int))) τ8) := Lib.hid (HA8.out.put HX.out HD8.out (by obtain ⟨_, _, _, _, _, hn⟩ := hm10; exact hn))
                    clear hm10 hg10 d9 HR9 HM8 HR8
                    first
                      | exact ⟨⟨j + 1, τ8, putM l (.bool x.dest) (.int .i64 (r8 : Int)), ns ++ [j], by go_num, by omega, HR10, HA10, HTJ, HPJ⟩, by simp only [intOf]; omega⟩
                      | (go_roundw
                         case rel =>
                           first
                             | exact ⟨j + 1, τ8, putM l (.bool x.dest) (.int .i64 (r8 : Int)), ns ++ [j], by go_num, by omega, HR10, HA10, HTJ, HPJ⟩
                             | (repeat apply Exists.intro); exact ⟨⟨j + 1, τ8, putM l (.bool x.dest) (.int .i64 (r8 : Int)), ns ++ [j], by go_num, by omega, HR10, HA10, HTJ, HPJ⟩, rfl⟩
                         case measure =>
                           change R.length - ((j : Int) + 1).toNat < R.length - (j : Int).toNat
                           omega)
                  · have hz2 : ((r7 : Int) == 0) = false := by simpa using hz
                    have HPJ : Hid (ns.length ≤ j + 1 ∧ ∀ k ∈ ns, ∃ x, R[k]? = some x ∧ ∀ s, ownF Fs x s = true → aheadF Fs R x.dest k s = true) := Lib.hid ⟨by have := HNS.out.1; omega, HNS.out.2⟩
                    go_wp2_with (refine wpList_mapAt rfl _ _ _ 79 3 rfl boolK Tryz.underlying79 rfl (show MapAt _ _ w8 _ _ from HM8.out) (.bool x.dest) (.int .i64 r8) kl rfl rfl HKL.out ?_; intro w10 hm10 hg10; have HR10 := Lib.hid (HR8.out.put hm10 hg10))
                    have HA10 : Hid (AheadM Fs R (j + 1) (putM l (.bool x.dest) (.int .i64 (r8 : Int))) τ8) := Lib.hid (HA8.out.put HX.out HD8.out (by obtain ⟨_, _, _, _, _, hn⟩ := hm10; exact hn))
                    clear hm10 hg10 HM8 HR8
                    first
                      | exact ⟨⟨j + 1, τ8, putM l (.bool x.dest) (.int .i64 (r8 : Int)), ns, by go_num, by omega, HR10, HA10, HTJ, HPJ⟩, by simp only [intOf]; omega⟩
                      | (go_roundw
                         case rel =>
                           first
                             | exact ⟨j + 1, τ8, putM l (.bool x.dest) (.int .i64 (r8 : Int)), ns, by go_num, by omega, HR10, HA10, HTJ, HPJ⟩
                             | (repeat apply Exists.intro); exact ⟨⟨j + 1, τ8, putM l (.bool x.dest) (.int .i64 (r8 : Int)), ns, by go_num, by omega, HR10, HA10, HTJ, HPJ⟩, rfl⟩
                         case measure =>
                           change R.length - ((j : Int) + 1).toNat < R.length - (j : Int).toNat
                           omega)
        · obtain rfl : j = R.length := by omega
          have hI : ¬ (R.length : Int) < (R.length : Int) := by omega
          obtain ⟨Ao, co, hov, _⟩ := owns_form HST.out.out
          subst hov
          have HBF : Hid (Below w.heap.size w wx) := Lib.hid (HB0.out.trans HLW.out)
          have HOF : Hid (wx.ownsRow w.heap.size 3 1 (.slice Ao ns.length co) ns.length (ncl ns)) := owns_base HST.out.out (by have := HST.out.bml; have := HB0.out.size; omega)
          go_wp2
          go_ret2
          exact ⟨HBF.out, .inr ⟨_, ns, rfl, HOF.out, HNS.out.1, HNS.out.2⟩⟩
end
end Go.Proofs.YthhcaoljejifeaaGreat

/-
  The law's large and has, the document's Filters and Allowed (written by wip/gen/gentg7.py).
-/
namespace Go.Proofs.YthhcaoljejifeaaGreat
open Go Go.RowKit Go.ChangeMaps Go.MapKept Go.Maps Go.Lib Go.Sort

def hasR (L : List Nat) (n : Nat) : Bool := L.any fun x => x == n
section
set_option maxRecDepth 100000
set_option maxHeartbeats 4000000
theorem rwHas_any (P : List Nat) (v : Value) (y : Nat) (w : World) (h : Rd w w.heap.size 1 v P.length (ncl P)) (hlen : P.length ≤ 1099511627776) :
    Calls Tryz.prog 9 #[v, .int .i64 y] w fun e w' => e = .returned (.bool (hasR P y)) ∧ w' = w := by
  obtain ⟨A, c, rfl, hc⟩ := h.form
  have HR := Lib.hid h
  clear h
  go_enter Tryz.func9, Tryz.ntmps9
  go_wp2
  go_loopw [5] (fun i wr => ∃ k : Nat, i = .int .i64 k ∧ k ≤ P.length ∧ Hid (∀ (j x : Nat), j < k → P[j]? = some x → (x == y) = false) ∧ wr = w) (fun i _ => P.length - (intOf i).toNat)
  case atStart => exact ⟨0, rfl, by omega, Lib.hid (fun j x hj _ => by omega), rfl⟩
  case round =>
    obtain ⟨k, rfl, hk, HN, rfl⟩ := hrel
    by_cases hlt : k < P.length
    · have hI : (k : Int) < (P.length : Int) := by omega
      obtain ⟨x, hx⟩ : ∃ x, P[k]? = some x := ⟨_, List.getElem?_eq_getElem hlt⟩
      obtain ⟨b, off, c', hv, _, hbB, hcell⟩ := HR.out.pos (by omega)
      injection hv with hv1 hvl hv3
      subst hv1 hv3
      clear hvl
      have c0 : wr.cell? ⟨b, off + k, none⟩ = some (.int .i64 (x : Int)) := hcell k _ (by simp [ncl, hx])
      have HX := Lib.hid hx
      clear hcell hx
      by_cases hq : x = y
      · subst hq
        go_wp2
        go_ret
        exact ⟨by rw [show hasR P x = true from List.any_eq_true.2 ⟨x, List.mem_of_getElem? HX.out, by simp⟩]; rfl, rfl⟩
      · have hq2 : ((x : Int) == (y : Int)) = false := by simp; omega
        go_wp2
        exact ⟨⟨k + 1, by go_num, by omega, Lib.hid (fun j z hj hz => by
          rcases Nat.lt_or_ge j k with h1 | h1
          · exact HN.out j z h1 hz
          · obtain rfl : j = k := by omega
            rw [HX.out] at hz
            injection hz with hz
            subst hz
            simpa using hq), (by first | trivial | rfl)⟩, by simp only [intOf]; omega⟩
    · obtain rfl : k = P.length := by omega
      have hI : ¬ (P.length : Int) < (P.length : Int) := by omega
      have HFIN : Hid (hasR P y = false) := Lib.hid (List.any_eq_false.2 fun x hx => by
        obtain ⟨j, hj⟩ := List.mem_iff_getElem?.1 hx
        rw [HN.out j x (List.getElem?_eq_some_iff.1 hj).1 hj]
        simp)
      go_wp2
      go_ret
      exact ⟨by rw [HFIN.out]; rfl, rfl⟩
end
/-- A list that has a name, by its length alone. -/
structure NmV where
  nm : ByteArray
  A : Option Addr
  n : Nat
  c : Nat
instance : Inhabited NmV := ⟨⟨ByteArray.empty, none, 0, 0⟩⟩
def NmV.enc (x : NmV) : List Value := [.string x.nm, .slice x.A x.n x.c]
theorem nm_len (x : NmV) : x.enc.length = 2 := rfl
def nmcells (L : List NmV) : List Value := L.flatMap NmV.enc
theorem nmcell {L : List NmV} {k i : Nat} {x : NmV} {v : Value} (hr : L[k]? = some x) (hv : x.enc[i]? = some v) : (nmcells L)[k * 2 + i]? = some v := flat_get NmV.enc 2 nm_len L k i x v hr hv
structure PoV where
  v : NmV
  d : Bool
instance : Inhabited PoV := ⟨⟨default, false⟩⟩
def PoV.enc (x : PoV) : List Value := [.string x.v.nm, .slice x.v.A x.v.n x.v.c, .bool x.d]
theorem po_len (x : PoV) : x.enc.length = 3 := rfl
def pocells (L : List PoV) : List Value := L.flatMap PoV.enc
theorem pocell {L : List PoV} {k i : Nat} {x : PoV} {v : Value} (hr : L[k]? = some x) (hv : x.enc[i]? = some v) : (pocells L)[k * 3 + i]? = some v := flat_get PoV.enc 3 po_len L k i x v hr hv
def sumL (L : List FiltV) : Nat := (L.map fun f => 1 + 3 * f.L.length).sum
theorem sumL_succ {Fs : List FiltV} {j : Nat} {f : FiltV} (h : Fs[j]? = some f) : sumL (Fs.take (j + 1)) = sumL (Fs.take j) + (1 + 3 * f.L.length) := by
  unfold sumL
  rw [List.take_add_one, h]
  simp
theorem sumL_rules (Fs : List FiltV) : Fs.length + 3 * (rulesOf Fs).length = sumL Fs := by
  induction Fs with
  | nil => rfl
  | cons f r ih =>
    have h1 : (rulesOf (f :: r)).length = f.L.length + (rulesOf r).length := by simp [rulesOf]
    have h2 : sumL (f :: r) = (1 + 3 * f.L.length) + sumL r := by simp [sumL]
    rw [h1, h2, List.length_cons]
    omega
/-- What large comes to: where it says no, all is small. -/
def LgRes (nR : Nat) (Fs : List FiltV) (e : Ending) : Prop := ∃ b, e = .returned (.bool b) ∧ (b = false → nR ≤ 150 ∧ Fs.length ≤ 150 ∧ (rulesOf Fs).length ≤ 49)
section
set_option maxRecDepth 100000
set_option maxHeartbeats 4000000
theorem large_any (w : World) (c0 c1 c2 c6 c10 c11 vI vF vR vP vC vQ : Value) (nI : Nat) (Fs : List FiltV) (nR : Nat) (P C : List NmV) (Q : List PoV) (hI : ∃ A c, vI = .slice A nI c) (hF : FsAt w w.heap.size vF Fs) (hR : ∃ A c, vR = .slice A nR c)
    (hP : Rd w w.heap.size 2 vP P.length (nmcells P)) (hC : Rd w w.heap.size 2 vC C.length (nmcells C)) (hQ : Rd w w.heap.size 3 vQ Q.length (pocells Q))
    (b1 : nI ≤ 1048576 ∧ nR ≤ 1048576 ∧ Fs.length ≤ 1048576 ∧ P.length ≤ 1048576 ∧ C.length ≤ 1048576 ∧ Q.length ≤ 1048576) (b2 : ∀ f ∈ Fs, f.L.length ≤ 1048576) (b3 : ∀ x ∈ P, x.n ≤ 1048576) (b4 : ∀ x ∈ C, x.n ≤ 1048576) (b5 : ∀ x ∈ Q, x.v.n ≤ 1048576) :
    Calls Tryz.prog 4 #[.agg #[c0, c1, c2, vI, vF, vR, c6, vP, vC, vQ, c10, c11]] w fun e w' => LgRes nR Fs e ∧ Below w.heap.size w w' := by
  obtain ⟨AI, cI, rfl⟩ := hI
  obtain ⟨AR, cR, rfl⟩ := hR
  obtain ⟨AF, cF, rfl, _⟩ := hF.1.form
  obtain ⟨AP, cP, rfl, _⟩ := hP.form
  obtain ⟨AC, cC, rfl, _⟩ := hC.form
  obtain ⟨AQ, cQ, rfl, _⟩ := hQ.form
  obtain ⟨q1, q2, q3, q4, q5, q6⟩ := b1
  have hbw := below1 w (.cells #[c0, c1, c2, .slice AI nI cI, .slice AF Fs.length cF, .slice AR nR cR, c6, .slice AP P.length cP, .slice AC C.length cC, .slice AQ Q.length cQ, c10, c11] 33)
  have hbk := blk1 w (.cells #[c0, c1, c2, .slice AI nI cI, .slice AF Fs.length cF, .slice AR nR cR, c6, .slice AP P.length cP, .slice AC C.length cC, .slice AQ Q.length cQ, c10, c11] 33)
  have HF := Lib.hid (hF.below hbw)
  have HP := Lib.hid (hP.below hbw)
  have HC := Lib.hid (hC.below hbw)
  have HQ := Lib.hid (hQ.below hbw)
  have HB0 := Lib.hid hbw
  have HB2 := Lib.hid b2
  have HB3 := Lib.hid b3
  have HB4 := Lib.hid b4
  have HB5 := Lib.hid b5
  have s3 := cell_of_row _ _ 3 _ _ (0, 0) hbk
  have s4 := cell_of_row _ _ 4 _ _ (0, 0) hbk
  have s5 := cell_of_row _ _ 5 _ _ (0, 0) hbk
  have s7 := cell_of_row _ _ 7 _ _ (0, 0) hbk
  have s8 := cell_of_row _ _ 8 _ _ (0, 0) hbk
  have s9 := cell_of_row _ _ 9 _ _ (0, 0) hbk
  clear hF hP hC hQ hbw hbk b2 b3 b4 b5
  go_enter Tryz.func4, Tryz.ntmps4
  go_upto_region 1 with fail
  generalize w.alloc (.cells #[c0, c1, c2, .slice AI nI cI, .slice AF Fs.length cF, .slice AR nR cR, c6, .slice AP P.length cP, .slice AC C.length cC, .slice AQ Q.length cQ, c10, c11] 33) = w0 at *
  replace s3 : w0.cell? ⟨w.heap.size, 3, none⟩ = some (.slice AI nI cI) := s3
  replace s4 : w0.cell? ⟨w.heap.size, 4, none⟩ = some (.slice AF Fs.length cF) := s4
  replace s5 : w0.cell? ⟨w.heap.size, 5, none⟩ = some (.slice AR nR cR) := s5
  replace s7 : w0.cell? ⟨w.heap.size, 7, none⟩ = some (.slice AP P.length cP) := s7
  replace s8 : w0.cell? ⟨w.heap.size, 8, none⟩ = some (.slice AC C.length cC) := s8
  replace s9 : w0.cell? ⟨w.heap.size, 9, none⟩ = some (.slice AQ Q.length cQ) := s9
  go_wp2_with fail
  go_loopw [3, 4] (fun s i wr => wr = w0 ∧ ∃ j : Nat, i = .int .i64 j ∧ j ≤ Fs.length ∧ s = .int .i64 ((nI + nR + sumL (Fs.take j) : Nat) : Int) ∧ Hid (sumL (Fs.take j) ≤ j * 3145729)) (fun _ i _ => Fs.length - (intOf i).toNat)
  case atStart => exact ⟨rfl, 0, rfl, by omega, by simp [sumL], Lib.hid (by simp [sumL])⟩
  case round =>
    obtain ⟨rfl, j, rfl, hj, rfl, HS⟩ := hrel
    by_cases hlt : j < Fs.length
    · have hI : (j : Int) < (Fs.length : Int) := by omega
      obtain ⟨f, hf⟩ : ∃ f, Fs[j]? = some f := ⟨_, List.getElem?_eq_getElem hlt⟩
      obtain ⟨b, off, c', hv, _, hbB, hcell⟩ := HF.out.1.posAt (by omega)
      injection hv with hv1 _ hv3
      subst hv1 hv3
      obtain ⟨Aq, cq, hvq, _⟩ := (HF.out.2 f (List.mem_of_getElem? hf)).1.form
      have f1 := hcell j 1 _ (fcell hf rfl)
      rw [hvq] at f1
      have hfl := HB2.out f (List.mem_of_getElem? hf)
      have HSU := Lib.hid (sumL_succ hf)
      have hsb := HS.out
      have hjb : j * 3145729 ≤ 1048576 * 3145729 := Nat.mul_le_mul_right _ (by omega)
      generalize hsq : sumL (Fs.take j) = sq at *
      clear hcell hf hvq
      have hw1 : sq ≤ 3298535931904 := Nat.le_trans hsb (Nat.le_trans hjb (by decide))
      clear hjb
      go_wp2_with fail
      refine ⟨⟨trivial, j + 1, by go_num, by omega, ?_, ?_⟩, by simp only [intOf]; omega⟩
      · rw [HSU.out]
        congr 1
        omega
      · show _ ≤ _
        rw [HSU.out]
        omega
    · obtain rfl : j = Fs.length := by omega
      have hI : ¬ (Fs.length : Int) < (Fs.length : Int) := by omega
      rw [List.take_length] at HS
      rw [List.take_length]
      have hsm : sumL Fs ≤ 3298535931904 := Nat.le_trans HS.out (Nat.le_trans (Nat.mul_le_mul_right _ q3) (by decide))
      obtain ⟨T0, hT0⟩ : ∃ T0, T0 = nI + nR + sumL Fs := ⟨_, rfl⟩
      have hT1 : T0 ≤ 3298538029056 := by omega
      have HT := Lib.hid hT0
      rw [← hT0]
      clear hT0 HS hsm hlt hj
      go_wp2_with fail
      go_loopw [3, 5] (fun s i wx => wx = wr ∧ ∃ j s' : Nat, i = .int .i64 j ∧ j ≤ P.length ∧ s = .int .i64 (s' : Int) ∧ T0 ≤ s' ∧ s' ≤ 3298538029056 + j * 1048577) (fun _ i _ => P.length - (intOf i).toNat)
      case atStart => exact ⟨rfl, 0, T0, rfl, by omega, rfl, by omega, by omega⟩
      case round =>
        obtain ⟨rfl, j, s', rfl, hj, rfl, ht1, ht2⟩ := hrel
        by_cases hlt : j < P.length
        · have hI : (j : Int) < (P.length : Int) := by omega
          obtain ⟨x, hx⟩ : ∃ x, P[j]? = some x := ⟨_, List.getElem?_eq_getElem hlt⟩
          obtain ⟨b, off, c', hv, _, hbB, hcell⟩ := HP.out.posAt (by omega)
          injection hv with hv1 _ hv3
          subst hv1 hv3
          have f1 := hcell j 1 _ (nmcell hx rfl)
          have hfl := HB3.out x (List.mem_of_getElem? hx)
          clear hcell hx
          go_wp2_with fail
          exact ⟨⟨trivial, j + 1, s' + 1 + x.n, by go_num, by omega, by go_num, by omega, by omega⟩, by simp only [intOf]; omega⟩
        · obtain rfl : j = P.length := by omega
          have hI : ¬ (P.length : Int) < (P.length : Int) := by omega
          clear hj hlt
          go_wp2_with fail
          go_loopw [3, 6] (fun s i wx => wx = wr ∧ ∃ j s2 : Nat, i = .int .i64 j ∧ j ≤ C.length ∧ s = .int .i64 (s2 : Int) ∧ T0 ≤ s2 ∧ s2 ≤ 4398050705408 + j * 1048577) (fun _ i _ => C.length - (intOf i).toNat)
          case atStart => exact ⟨rfl, 0, s', rfl, by omega, rfl, by omega, by omega⟩
          case round =>
            obtain ⟨rfl, j, s2, rfl, hj, rfl, ht1, ht2⟩ := hrel
            by_cases hlt : j < C.length
            · have hI : (j : Int) < (C.length : Int) := by omega
              obtain ⟨x, hx⟩ : ∃ x, C[j]? = some x := ⟨_, List.getElem?_eq_getElem hlt⟩
              obtain ⟨b, off, c', hv, _, hbB, hcell⟩ := HC.out.posAt (by omega)
              injection hv with hv1 _ hv3
              subst hv1 hv3
              have f1 := hcell j 1 _ (nmcell hx rfl)
              have hfl := HB4.out x (List.mem_of_getElem? hx)
              clear hcell hx
              go_wp2_with fail
              exact ⟨⟨trivial, j + 1, s2 + 1 + x.n, by go_num, by omega, by go_num, by omega, by omega⟩, by simp only [intOf]; omega⟩
            · obtain rfl : j = C.length := by omega
              have hI : ¬ (C.length : Int) < (C.length : Int) := by omega
              clear hj hlt
              go_wp2_with fail
              go_loopw [3, 7] (fun s i wx => wx = wr ∧ ∃ j s3 : Nat, i = .int .i64 j ∧ j ≤ Q.length ∧ s = .int .i64 (s3 : Int) ∧ T0 ≤ s3 ∧ s3 ≤ 5497563381760 + j * 1048577) (fun _ i _ => Q.length - (intOf i).toNat)
              case atStart => exact ⟨rfl, 0, s2, rfl, by omega, rfl, by omega, by omega⟩
              case round =>
                obtain ⟨rfl, j, s3, rfl, hj, rfl, ht1, ht2⟩ := hrel
                by_cases hlt : j < Q.length
                · have hI : (j : Int) < (Q.length : Int) := by omega
                  obtain ⟨x, hx⟩ : ∃ x, Q[j]? = some x := ⟨_, List.getElem?_eq_getElem hlt⟩
                  obtain ⟨b, off, c', hv, _, hbB, hcell⟩ := HQ.out.posAt (by omega)
                  injection hv with hv1 _ hv3
                  subst hv1 hv3
                  have f1 := hcell j 1 _ (pocell hx rfl)
                  have hfl := HB5.out x (List.mem_of_getElem? hx)
                  clear hcell hx
                  go_wp2_with fail
                  exact ⟨⟨trivial, j + 1, s3 + 1 + x.v.n, by go_num, by omega, by go_num, by omega, by omega⟩, by simp only [intOf]; omega⟩
                · obtain rfl : j = Q.length := by omega
                  have hI : ¬ (Q.length : Int) < (Q.length : Int) := by omega
                  clear hj hlt
                  have HB := Lib.hid HB0.out
                  by_cases hgt : 150 < s3
                  · have hgi : (150 : Int) < (s3 : Int) := by omega
                    go_wp2
                    go_ret
                    exact ⟨⟨true, rfl, fun h => by cases h⟩, HB.out⟩
                  · have hgi : ¬ (150 : Int) < (s3 : Int) := by omega
                    go_wp2
                    go_ret
                    refine ⟨⟨false, rfl, fun _ => ?_⟩, HB.out⟩
                    have h1 := HT.out
                    have h2 := sumL_rules Fs
                    have h3 : Fs.length = 0 → (rulesOf Fs).length = 0 := fun h => by
                      rw [List.eq_nil_of_length_eq_zero h]
                      rfl
                    omega
end
end Go.Proofs.YthhcaoljejifeaaGreat

/-
  The document's Filters and Allowed (written by wip/gen/gentg8.py).
-/
namespace Go.Proofs.YthhcaoljejifeaaGreat
open Go Go.RowKit Go.ChangeMaps Go.MapKept Go.Maps Go.Lib Go.Sort

def okFs (Fs : List FiltV) : Bool := Fs.all fun f => decide (filtE f.L = 0)
theorem okFs_iff {Fs : List FiltV} : okFs Fs = true ↔ ∀ f ∈ Fs, filtE f.L = 0 := by
  unfold okFs
  simp
def allowN (Fs : List FiltV) (nm : ByteArray) (h : HeaderV) : Bool := if nm.toList = [] then true else permN (fndL Fs nm) h
section
set_option maxRecDepth 100000
set_option maxHeartbeats 4000000
theorem filters_any (w : World) (c0 c1 c2 c3 c5 c6 c7 c8 c9 c10 c11 vF : Value) (Fs : List FiltV) (hF : FsAt w w.heap.size vF Fs) (hn : Fs.length ≤ 1048576) :
    Calls Tryz.prog 5 #[.agg #[c0, c1, c2, c3, vF, c5, c6, c7, c8, c9, c10, c11]] w fun e w' => e = .returned (.bool (okFs Fs)) ∧ Below w.heap.size w w' := by
  obtain ⟨AF, cF, rfl, _⟩ := hF.1.form
  have hbw := below1 w (.cells #[c0, c1, c2, c3, .slice AF Fs.length cF, c5, c6, c7, c8, c9, c10, c11] 33)
  have hbk := blk1 w (.cells #[c0, c1, c2, c3, .slice AF Fs.length cF, c5, c6, c7, c8, c9, c10, c11] 33)
  have HF := Lib.hid (hF.below hbw)
  have HB0 := Lib.hid hbw
  have HK0 := Lib.hid hbk
  clear hF hbw hbk
  go_enter Tryz.func5, Tryz.ntmps5
  go_upto_region 1 with fail
  generalize w.alloc (.cells #[c0, c1, c2, c3, .slice AF Fs.length cF, c5, c6, c7, c8, c9, c10, c11] 33) = w0 at *
  go_wp2_with fail
  go_loopw [3] (fun i wr => ∃ j : Nat, i = .int .i64 j ∧ j ≤ Fs.length ∧ Hid (∀ (k : Nat) (f : FiltV), k < j → Fs[k]? = some f → filtE f.L = 0) ∧ Hid (Below w0.heap.size w0 wr)) (fun i _ => Fs.length - (intOf i).toNat)
  case atStart => exact ⟨0, rfl, by omega, Lib.hid (fun k f h => by omega), Lib.hid (Below.refl _ _)⟩
  case round =>
    obtain ⟨j, rfl, hj, HN, HB⟩ := hrel
    rename World => wr
    have hsz := HB.out.size
    have HWR := Lib.hid (HB.out.mono HB0.out.size)
    have s4 : wr.cell? ⟨w.heap.size, 4, none⟩ = some (.slice AF Fs.length cF) := cell_of_row _ _ 4 _ _ (0, 0) (blk_below HB.out HK0.out)
    by_cases hlt : j < Fs.length
    · have hI : (j : Int) < (Fs.length : Int) := by omega
      obtain ⟨f, hf⟩ : ∃ f, Fs[j]? = some f := ⟨_, List.getElem?_eq_getElem hlt⟩
      obtain ⟨b, off, c', hv, _, hbB, hcell⟩ := (HF.out.below HWR.out).1.posAt (by omega)
      injection hv with hv1 _ hv3
      subst hv1 hv3
      have hrd := ((HF.out.below HWR.out).2 f (List.mem_of_getElem? hf)).1
      have f0 : wr.cell? ⟨b, off + j * 2, none⟩ = some (.string f.nm) := hcell j 0 _ (fcell hf rfl)
      have f1 : wr.cell? ⟨b, off + j * 2 + 1, none⟩ = some f.v := hcell j 1 _ (fcell hf rfl)
      have HFF := Lib.hid hf
      have hck := refFiltCheck_any f.nm f.L f.v wr (hrd.mono (Nat.le_trans HB0.out.size hsz))
      clear hcell hf hrd
      by_cases hz : filtE f.L = 0
      · rw [hz] at hck
        have HCK := Lib.hid hck
        have HZ := Lib.hid hz
        clear hck hz
        go_wp2_with fail
        refine HCK.out.mono ?_
        rintro e w2 ⟨rfl, hb2⟩
        have HB2 := Lib.hid (HB.out.trans (hb2.mono hsz))
        have HN2 : Hid (∀ (k : Nat) (f : FiltV), k < j + 1 → Fs[k]? = some f → filtE f.L = 0) := Lib.hid (fun k g hk hg => by
          rcases Nat.lt_or_ge k j with h1 | h1
          · exact HN.out k g h1 hg
          · obtain rfl : k = j := by omega
            rw [HFF.out] at hg
            injection hg with hg
            subst hg
            exact HZ.out)
        clear hb2 HCK f0 f1 s4
        go_wp2
        first
          | exact ⟨⟨j + 1, by go_num, by omega, HN2, HB2⟩, by simp only [intOf]; omega⟩
          | (go_roundw
             case rel =>
               first
                 | exact ⟨j + 1, by go_num, by omega, HN2, HB2⟩
                 | (repeat apply Exists.intro); exact ⟨⟨j + 1, by go_num, by omega, HN2, HB2⟩, rfl⟩
             case measure =>
               change Fs.length - ((j : Int) + 1).toNat < Fs.length - (j : Int).toNat
               omega)
      · have hz2 : (filtE f.L == 0) = false := by simpa using hz
        have HFA : Hid (okFs Fs = false) := Lib.hid (by
          cases h : okFs Fs with
          | false => rfl
          | true => exact absurd (okFs_iff.1 h f (List.mem_of_getElem? HFF.out)) hz)
        have HCK := Lib.hid hck
        clear hck hz
        go_wp2_with fail
        refine HCK.out.mono ?_
        rintro e w2 ⟨rfl, hb2⟩
        have HBE := Lib.hid (HB0.out.trans ((HB.out.trans (hb2.mono hsz)).mono HB0.out.size))
        clear hb2 HCK f0 f1 s4
        go_wp2
        go_ret
        exact ⟨by rw [HFA.out]; rfl, HBE.out⟩
    · obtain rfl : j = Fs.length := by omega
      have hI : ¬ (Fs.length : Int) < (Fs.length : Int) := by omega
      have HTR : Hid (okFs Fs = true) := Lib.hid (okFs_iff.2 fun f hf => by
        obtain ⟨k, hk, he⟩ := List.getElem_of_mem hf
        exact HN.out k f hk (by rw [← he]; exact List.getElem?_eq_getElem hk))
      have HBE := Lib.hid (HB0.out.trans HWR.out)
      go_wp2
      go_ret
      exact ⟨by rw [HTR.out]; rfl, HBE.out⟩
theorem allowed_any (w : World) (c0 c1 c2 c3 c5 c6 c7 c8 c9 c10 c11 vF : Value) (Fs : List FiltV) (nm : ByteArray) (h : HeaderV) (hF : FsAt w w.heap.size vF Fs) (hn : Fs.length ≤ 1048576) (hb : ∀ f ∈ Fs, f.L.length ≤ 1048576) :
    Calls Tryz.prog 8 #[.agg #[c0, c1, c2, c3, vF, c5, c6, c7, c8, c9, c10, c11], .string nm, .agg #[.int .u32 h.src, .int .u32 h.dst, .int .u8 h.proto, .int .u16 h.sp, .int .u16 h.dp]] w fun e w' => e = .returned (.bool (allowN Fs nm h)) ∧ Below w.heap.size w w' := by
  obtain ⟨AF, cF, rfl, _⟩ := hF.1.form
  have hbw := below2 w (.cells #[c0, c1, c2, c3, .slice AF Fs.length cF, c5, c6, c7, c8, c9, c10, c11] 33) (.cells #[.int .u32 h.src, .int .u32 h.dst, .int .u8 h.proto, .int .u16 h.sp, .int .u16 h.dp] 49)
  obtain ⟨hbk, hbh⟩ := blk2 w (.cells #[c0, c1, c2, c3, .slice AF Fs.length cF, c5, c6, c7, c8, c9, c10, c11] 33) (.cells #[.int .u32 h.src, .int .u32 h.dst, .int .u8 h.proto, .int .u16 h.sp, .int .u16 h.dp] 49)
  have HF := Lib.hid (hF.below hbw)
  have HB0 := Lib.hid hbw
  have HK0 := Lib.hid hbk
  have HH0 := Lib.hid hbh
  have HBB := Lib.hid hb
  clear hF hbw hbk hbh hb
  go_enter Tryz.func8, Tryz.ntmps8
  go_upto_region 1 with fail
  generalize (w.alloc (.cells #[c0, c1, c2, c3, .slice AF Fs.length cF, c5, c6, c7, c8, c9, c10, c11] 33)).alloc (.cells #[.int .u32 h.src, .int .u32 h.dst, .int .u8 h.proto, .int .u16 h.sp, .int .u16 h.dp] 49) = w0 at *
  by_cases hm : nm.toList = []
  · have hm1 : (nm.toList == []) = true := by simp [hm]
    have HAL : Hid (allowN Fs nm h = true) := Lib.hid (by unfold allowN; rw [if_pos hm])
    clear hm
    go_wp2
    go_ret
    exact ⟨by rw [HAL.out]; rfl, HB0.out⟩
  · have hm1 : (nm.toList == []) = false := by simp [hm]
    have HAL : Hid (allowN Fs nm h = permN (fndL Fs nm) h) := Lib.hid (by unfold allowN; rw [if_neg hm])
    clear hm
    go_wp2_with fail
    go_loopw [7] (fun i wr => wr = w0 ∧ ∃ j : Nat, i = .int .i64 j ∧ j ≤ Fs.length ∧ Hid (∀ (k : Nat) (f : FiltV), k < j → Fs[k]? = some f → hasNm nm f = false)) (fun i _ => Fs.length - (intOf i).toNat)
    case atStart => exact ⟨rfl, 0, rfl, by omega, Lib.hid (fun k f h => by omega)⟩
    case round =>
      obtain ⟨rfl, j, rfl, hj, HN⟩ := hrel
      have s4 : wr.cell? ⟨w.heap.size, 4, none⟩ = some (.slice AF Fs.length cF) := cell_of_row _ _ 4 _ _ (0, 0) HK0.out
      by_cases hlt : j < Fs.length
      · have hI : (j : Int) < (Fs.length : Int) := by omega
        obtain ⟨f, hf⟩ : ∃ f, Fs[j]? = some f := ⟨_, List.getElem?_eq_getElem hlt⟩
        obtain ⟨b, off, c', hv, _, hbB, hcell⟩ := HF.out.1.posAt (by omega)
        injection hv with hv1 _ hv3
        subst hv1 hv3
        have hrd := (HF.out.2 f (List.mem_of_getElem? hf)).1
        have hle : f.L.length ≤ 4294967296 := Nat.le_trans (HBB.out f (List.mem_of_getElem? hf)) (by decide)
        have f0 : wr.cell? ⟨b, off + j * 2, none⟩ = some (.string f.nm) := hcell j 0 _ (fcell hf rfl)
        have f1 : wr.cell? ⟨b, off + j * 2 + 1, none⟩ = some f.v := hcell j 1 _ (fcell hf rfl)
        have HFF := Lib.hid hf
        have HRD := Lib.hid (hrd.mono HB0.out.size)
        clear hcell hf hrd
        by_cases hm : f.nm.toList = nm.toList
        · have hm2 : (f.nm.toList == nm.toList) = true := by simp [hm]
          have HR : Hid (permN (fndL Fs nm) h = permN f.L h) := Lib.hid (by
            have hi := idxP_hit (hasNm nm) Fs j f HFF.out hm2 (fun k g hk hg => HN.out k g hk hg)
            unfold fndL
            rw [fnd_hit hi HFF.out])
          clear hm
          go_upto_region 7 with fail
          have F0 := cell_regrown f0
          have F1 := cell_regrown f1
          have S4 := cell_regrown s4
          have G0 := cell_regrown (cell_of_row _ _ 0 _ _ (0, 0) HH0.out)
          have G1 := cell_regrown (cell_of_row _ _ 1 _ _ (0, 0) HH0.out)
          have G2 := cell_regrown (cell_of_row _ _ 2 _ _ (0, 0) HH0.out)
          have G3 := cell_regrown (cell_of_row _ _ 3 _ _ (0, 0) HH0.out)
          have G4 := cell_regrown (cell_of_row _ _ 4 _ _ (0, 0) HH0.out)
          clear f0 f1 s4
          refine wp_region_quiet_below (by kernel_rfl) (by kernel_rfl) ?_
          repeat (first | go_big_quiet_step ((go_at_call 19; exact Calls.regrown_of (refPermits_any f.nm f.L _ h _ ((HRD.out.below (below_regrown _ _ _)).mono (below_regrown _ _ _).size) hle))) | quiet_step ((go_at_call 19; exact Calls.regrown_of (refPermits_any f.nm f.L _ h _ ((HRD.out.below (below_regrown _ _ _)).mono (below_regrown _ _ _).size) hle))))
          refine wpQuiet_nil ?_
          intro _ hw'
          obtain ⟨⟨nq, osq⟩, hwq⟩ := hw'
          subst hwq
          have HBE := Lib.hid (HB0.out.trans ((below_regrown wr nq osq).mono HB0.out.size))
          clear F0 F1 S4 G0 G1 G2 G3 G4
          go_wp2
          go_ret
          exact ⟨by rw [HAL.out, HR.out]; rfl, HBE.out⟩
        · have hm2 : (f.nm.toList == nm.toList) = false := by simp [hm]
          have HN2 : Hid (∀ (k : Nat) (f : FiltV), k < j + 1 → Fs[k]? = some f → hasNm nm f = false) := Lib.hid (fun k g hk hg => by
            rcases Nat.lt_or_ge k j with h1 | h1
            · exact HN.out k g h1 hg
            · obtain rfl : k = j := by omega
              rw [HFF.out] at hg
              injection hg with hg
              subst hg
              exact hm2)
          clear hm
          go_wp2
          first
            | exact ⟨⟨trivial, j + 1, by go_num, by omega, HN2⟩, by simp only [intOf]; omega⟩
            | exact ⟨⟨rfl, j + 1, by go_num, by omega, HN2⟩, by simp only [intOf]; omega⟩
      · obtain rfl : j = Fs.length := by omega
        have hI : ¬ (Fs.length : Int) < (Fs.length : Int) := by omega
        have HR : Hid (permN (fndL Fs nm) h = false) := Lib.hid (by
          have hi := idxP_miss (hasNm nm) Fs (fun k g hg => HN.out k g (List.getElem?_eq_some_iff.1 hg).1 hg)
          unfold fndL
          rw [fnd_miss hi]
          rfl)
        go_wp2
        go_ret
        exact ⟨by rw [HAL.out, HR.out]; rfl, HB0.out⟩
end
end Go.Proofs.YthhcaoljejifeaaGreat

/-
  The places of which it is so: lint.places.
-/
namespace Go.Proofs.YthhcaoljejifeaaGreat
open Go Go.RowKit Go.ChangeMaps Go.MapKept Go.Maps Go.Lib Go.Sort

def plL (p : Nat → Bool) (m : Nat) : List Nat := (List.range m).filter p
theorem plL_succ (p : Nat → Bool) (m : Nat) : plL p (m + 1) = if p m then plL p m ++ [m] else plL p m := by
  unfold plL
  rw [List.range_succ, List.filter_append]
  by_cases h : p m = true
  · rw [if_pos h]; simp [h]
  · rw [if_neg h]; simp [h]
theorem plL_len (p : Nat → Bool) (m : Nat) : (plL p m).length ≤ m := by
  have := List.length_filter_le p (List.range m)
  rw [List.length_range] at this
  exact this
section
set_option maxRecDepth 100000
set_option maxHeartbeats 4000000
theorem places_any (n : Nat) (fid : FuncId) (caps : Array Value) (p : Nat → Bool) (w : World) (en : ∀ (args : Array Value) (W : World), (callFunc fid args).run Tryz.prog W = .ok (.enter fid args) W)
    (hp : ∀ i W, i < n → Below w.heap.size w W → Calls Tryz.prog fid (#[.int .i64 i] ++ caps) W fun e W' => e = .returned (.bool (p i)) ∧ Below W.heap.size W W') (hn : n ≤ 1099511627776) :
    Calls Tryz.prog 22 #[.int .i64 n, .func (.func fid) #[] caps] w fun e w' => ∃ v, e = .returned v ∧ w'.ownsRow w.heap.size 3 1 v (plL p n).length (ncl (plL p n)) ∧ Below w.heap.size w w' := by
  obtain ⟨i0, hif, hz0, hz1, hz2⟩ := info_parts Tryz.infoInt
  have HP := Lib.hid hp
  clear hp
  go_enter Tryz.func22, Tryz.ntmps22
  go_wp2
  go_loopw [5, 8] (fun r i wr => ∃ m : Nat, i = .int .i64 m ∧ m ≤ n ∧ Hid (wr.ownsRow w.heap.size 3 1 r (plL p m).length (ncl (plL p m))) ∧ Hid (Below w.heap.size w wr)) (fun _ i _ => n - (intOf i).toNat)
  case atStart => exact ⟨0, rfl, by omega, Lib.hid (World.ownsRow_nil _ _ _ _), Lib.hid (Below.refl _ _)⟩
  case round =>
    obtain ⟨m, rfl, hm, HO, HB⟩ := hrel
    obtain ⟨Ar, cr, hr, _⟩ := owns_form HO.out
    subst hr
    by_cases hlt : m < n
    · have hI : (m : Int) < (n : Int) := by omega
      have HC := Lib.hid (HP.out m wr hlt HB.out)
      have hzl : (plL p m).length ≤ 1099511627776 := by have := plL_len p m; omega
      have HS := Lib.hid (plL_succ p m)
      obtain ⟨q, hq⟩ : ∃ q, p m = q := ⟨_, rfl⟩
      rw [hq] at HC HS
      clear hq
      cases q
      · have HS2 : Hid (plL p (m + 1) = plL p m) := Lib.hid HS.out
        clear HS
        go_wp2_with ((with_reducible refine HC.out.mono ?_); rintro e w2 ⟨rfl, hb2⟩; have HB2 := Lib.hid (HB.out.trans (hb2.mono HB.out.size)); have HO2 := Lib.hid (owns_kept_none HO.out (only_of_below hb2 none)); have hbs := HB2.out.size; clear hb2)
        exact ⟨⟨m + 1, by go_num, by omega, Lib.hid (by rw [HS2.out]; exact HO2.out), HB2⟩, by simp only [intOf]; omega⟩
      · have HS2 : Hid (plL p (m + 1) = plL p m ++ [m]) := Lib.hid HS.out
        clear HS
        go_wp2_with (first
          | ((with_reducible refine HC.out.mono ?_); rintro e w2 ⟨rfl, hb2⟩; have HB2 := Lib.hid (HB.out.trans (hb2.mono HB.out.size)); have HO2 := Lib.hid (owns_kept_none HO.out (only_of_below hb2 none)); have hbs := HB2.out.size; clear hb2)
          | (at_builtin; refine wpList_push2 (v := .slice Ar (plL p m).length cr) rfl _ _ 37 rfl 3 i0 _ 1 8 Tryz.underlying37 hif hz0 hz1 hz2 rfl (by decide) (by decide) [.int .i64 m] rfl rfl rfl HO2.out rfl (one_i64 _) hzl hbs ?_; intro v3 w3 hown3 hg3 hm3; have HO3 := Lib.hid hown3; have HB3 := Lib.hid (below_grown HB2.out hbs hg3 (fun g hg => (HO2.out.lt g hg).1)); clear hown3 hg3 hm3))
        exact ⟨⟨m + 1, by go_num, by omega, Lib.hid (by rw [HS2.out, List.length_append, ncl_app]; exact HO3.out), HB3⟩, by simp only [intOf]; omega⟩
    · obtain rfl : m = n := by omega
      have hI : ¬ (m : Int) < (m : Int) := by omega
      go_wp2
      go_ret
      exact ⟨_, rfl, HO.out, HB.out⟩
end
end Go.Proofs.YthhcaoljejifeaaGreat

/-
  slices.IndexFunc, ContainsFunc, Index, Contains at the lists' kinds (written by wip/gen/genln4.py).
-/
namespace Go.Proofs.YthhcaoljejifeaaGreat
open Go Go.RowKit Go.Sort

/-- A community list's member: what it lets, where its communities lie, these. -/
structure MemV where
  permit : Bool
  v : Value
  L : List Int
instance : Inhabited MemV := ⟨⟨false, .slice none 0 0, []⟩⟩
def MemV.enc (x : MemV) : List Value := [.bool x.permit, x.v]
theorem mem_len (x : MemV) : x.enc.length = 2 := rfl
def mcells (L : List MemV) : List Value := L.flatMap MemV.enc
theorem mcell {L : List MemV} {k i : Nat} {x : MemV} {v : Value} (hr : L[k]? = some x) (hv : x.enc[i]? = some v) : (mcells L)[k * 2 + i]? = some v := flat_get MemV.enc 2 mem_len L k i x v hr hv
/-- A prefix list's entry. -/
structure EntV where
  permit : Bool
  a : Int
  n : Int
  ge : Int
  le : Int
instance : Inhabited EntV := ⟨⟨false, 0, 0, 0, 0⟩⟩
def EntV.enc (x : EntV) : List Value := [.bool x.permit, .int .u32 x.a, .int .i64 x.n, .int .i64 x.ge, .int .i64 x.le]
def ecells (L : List EntV) : List Value := L.flatMap EntV.enc
def u32c (L : List Int) : List Value := L.map (Value.int .u32)
theorem u32c_get {L : List Int} {k : Nat} {x : Int} (h : L[k]? = some x) : (u32c L)[k]? = some (.int .u32 x) := by simp [u32c, h]
theorem any_idx {α : Type} [Inhabited α] (p : α → Bool) (L : List α) : (0 ≤ idxP p L) = (L.any p = true) := by
  rcases idxP_cases p L with ⟨h1, h2⟩ | ⟨k, x, h1, h2, h3, _⟩
  · rw [h1]
    have : L.any p = false := by
      rw [List.any_eq_false]
      intro x hx
      obtain ⟨j, hj⟩ := List.mem_iff_getElem?.1 hx
      simp [h2 j x hj]
    rw [this]
    simp
  · rw [h1]
    have : L.any p = true := List.any_eq_true.2 ⟨x, List.mem_of_getElem? h2, h3⟩
    rw [this]
    simp
theorem any_dec {α : Type} [Inhabited α] (p : α → Bool) (L : List α) : decide ((0 : Int) ≤ idxP p L) = L.any p := by
  have := any_idx p L
  by_cases h : (0 : Int) ≤ idxP p L
  · rw [decide_eq_true h]; exact (this ▸ h : L.any p = true).symm
  · rw [decide_eq_false h]
    cases h2 : L.any p with
    | false => rfl
    | true => exact absurd (this ▸ h2 : (0 : Int) ≤ idxP p L) h

set_option maxRecDepth 100000 in
set_option maxHeartbeats 2000000 in
theorem indexFnU_any (L : List Int) (v : Value) (p : Int → Bool) (fid : FuncId) (caps : Array Value) (w : World) (en : ∀ (args : Array Value) (W : World), (callFunc fid args).run Tryz.prog W = .ok (.enter fid args) W) (hp : ∀ (x : Int) W, x ∈ L → Below w.heap.size w W → Calls Tryz.prog fid (#[.int .u32 x] ++ caps) W fun e W' => e = .returned (.bool (p x)) ∧ Below W.heap.size W W') (h : Rd w w.heap.size 1 v L.length (u32c L)) (hlen : L.length ≤ 9223372036854775807) :
    Calls Tryz.prog 44 #[v, .func (.func fid) #[] caps] w fun e w' => e = .returned (.int .i64 (idxP p L)) ∧ Below w.heap.size w w' := by
  obtain ⟨A, c, rfl, hc⟩ := h.form
  have HR := Lib.hid h
  have HP := Lib.hid hp
  clear h hp
  go_enter Tryz.func44, Tryz.ntmps44
  go_wp2
  go_loopw [8] (fun i wr => ∃ k : Nat, i = .int .i64 k ∧ k ≤ L.length ∧ Hid (∀ (j : Nat) (x : Int), j < k → L[j]? = some x → p x = false) ∧ Hid (Below w.heap.size w wr)) (fun i _ => L.length - (intOf i).toNat)
  case atStart => exact ⟨0, rfl, by omega, Lib.hid (fun j x hj _ => by omega), Lib.hid (Below.refl _ _)⟩
  case round =>
    obtain ⟨k, rfl, hk, HN, HB⟩ := hrel
    by_cases hlt : k < L.length
    · have hI : (k : Int) < (L.length : Int) := by omega
      obtain ⟨x, hx⟩ : ∃ x, L[k]? = some x := ⟨_, List.getElem?_eq_getElem hlt⟩
      obtain ⟨b, off, c', hv, _, hbB, hcell⟩ := HR.out.pos (by omega)
      injection hv with hv1 hvl hv3
      subst hv1 hv3
      clear hvl
      have c0 : wr.cell? ⟨b, off + k, none⟩ = some (.int .u32 x) := (HB.out.cell (p := ⟨b, off + k, none⟩) hbB).trans (hcell k _ (u32c_get hx))
      have HX := Lib.hid hx
      have HCALL := Lib.hid (HP.out x wr (List.mem_of_getElem? hx) HB.out)
      clear hcell hx
      go_wp2_with ((with_reducible refine HCALL.out.mono ?_); rintro e w2 ⟨rfl, hb2⟩; have HB2 := Lib.hid (HB.out.trans (hb2.mono HB.out.size)); clear hb2; obtain ⟨q, hq⟩ : ∃ q, p x = q := ⟨_, rfl⟩; have HQ := Lib.hid hq; rw [hq]; clear hq; cases q)
      · exact ⟨⟨k + 1, by go_num, by omega, Lib.hid (fun j y hj hy => by
          rcases Nat.lt_or_ge j k with h1 | h1
          · exact HN.out j y h1 hy
          · obtain rfl : j = k := by omega
            rw [HX.out] at hy
            injection hy with hy
            subst hy
            exact HQ.out), HB2⟩, by simp only [intOf]; omega⟩
      · go_ret
        exact ⟨by rw [idxP_hit p L k x HX.out HQ.out HN.out]; rfl, HB2.out⟩
    · obtain rfl : k = L.length := by omega
      have hI : ¬ (L.length : Int) < (L.length : Int) := by omega
      have HFIN := Lib.hid (idxP_miss p L fun j x hx => HN.out j x (List.getElem?_eq_some_iff.1 hx).1 hx)
      go_wp2
      go_ret
      exact ⟨by rw [HFIN.out]; rfl, HB.out⟩
set_option maxRecDepth 100000 in
set_option maxHeartbeats 2000000 in
theorem containsFnU_any (L : List Int) (v : Value) (p : Int → Bool) (fid : FuncId) (caps : Array Value) (w : World) (en : ∀ (args : Array Value) (W : World), (callFunc fid args).run Tryz.prog W = .ok (.enter fid args) W) (hp : ∀ (x : Int) W, x ∈ L → Below w.heap.size w W → Calls Tryz.prog fid (#[.int .u32 x] ++ caps) W fun e W' => e = .returned (.bool (p x)) ∧ Below W.heap.size W W') (h : Rd w w.heap.size 1 v L.length (u32c L)) (hlen : L.length ≤ 9223372036854775807) :
    Calls Tryz.prog 26 #[v, .func (.func fid) #[] caps] w fun e w' => e = .returned (.bool (L.any p)) ∧ Below w.heap.size w w' := by
  have HI := Lib.hid (indexFnU_any L v p fid caps w en hp h hlen)
  obtain ⟨A, c, rfl, hc⟩ := h.form
  clear h hp en
  have hd := any_dec p L
  generalize idxP p L = q at *
  go_enter Tryz.func26, Tryz.ntmps26
  go_wp2_with ((with_reducible refine HI.out.mono ?_); rintro e w2 ⟨rfl, hb2⟩; have HB2 := Lib.hid hb2; clear hb2)
  go_ret
  exact ⟨by rw [← hd]; rfl, HB2.out⟩

set_option maxRecDepth 100000 in
set_option maxHeartbeats 2000000 in
theorem indexFnM_any (L : List MemV) (v : Value) (p : MemV → Bool) (fid : FuncId) (caps : Array Value) (w : World) (en : ∀ (args : Array Value) (W : World), (callFunc fid args).run Tryz.prog W = .ok (.enter fid args) W) (hp : ∀ (x : MemV) W, x ∈ L → Below w.heap.size w W → Calls Tryz.prog fid (#[.agg #[.bool x.permit, x.v]] ++ caps) W fun e W' => e = .returned (.bool (p x)) ∧ Below W.heap.size W W') (h : Rd w w.heap.size 2 v L.length (mcells L)) (hlen : L.length ≤ 9223372036854775807) :
    Calls Tryz.prog 43 #[v, .func (.func fid) #[] caps] w fun e w' => e = .returned (.int .i64 (idxP p L)) ∧ Below w.heap.size w w' := by
  obtain ⟨A, c, rfl, hc⟩ := h.form
  have HR := Lib.hid h
  have HP := Lib.hid hp
  clear h hp
  go_enter Tryz.func43, Tryz.ntmps43
  go_wp2
  go_loopw [8] (fun i wr => ∃ k : Nat, i = .int .i64 k ∧ k ≤ L.length ∧ Hid (∀ (j : Nat) (x : MemV), j < k → L[j]? = some x → p x = false) ∧ Hid (Below w.heap.size w wr)) (fun i _ => L.length - (intOf i).toNat)
  case atStart => exact ⟨0, rfl, by omega, Lib.hid (fun j x hj _ => by omega), Lib.hid (Below.refl _ _)⟩
  case round =>
    obtain ⟨k, rfl, hk, HN, HB⟩ := hrel
    by_cases hlt : k < L.length
    · have hI : (k : Int) < (L.length : Int) := by omega
      obtain ⟨x, hx⟩ : ∃ x, L[k]? = some x := ⟨_, List.getElem?_eq_getElem hlt⟩
      obtain ⟨b, off, c', hv, _, hbB, hcell⟩ := HR.out.posAt (by omega)
      injection hv with hv1 hvl hv3
      subst hv1 hv3
      clear hvl
      have c0 : wr.cell? ⟨b, off + k * 2, none⟩ = some (.bool x.permit) := (HB.out.cell (p := ⟨b, off + k * 2, none⟩) hbB).trans (hcell k 0 _ (mcell hx rfl))
      have c1 : wr.cell? ⟨b, off + k * 2 + 1, none⟩ = some (x.v) := (HB.out.cell (p := ⟨b, off + k * 2 + 1, none⟩) hbB).trans (hcell k 1 _ (mcell hx rfl))
      have HX := Lib.hid hx
      have HCALL := Lib.hid (HP.out x wr (List.mem_of_getElem? hx) HB.out)
      clear hcell hx
      go_wp2_with ((with_reducible refine HCALL.out.mono ?_); rintro e w2 ⟨rfl, hb2⟩; have HB2 := Lib.hid (HB.out.trans (hb2.mono HB.out.size)); clear hb2; obtain ⟨q, hq⟩ : ∃ q, p x = q := ⟨_, rfl⟩; have HQ := Lib.hid hq; rw [hq]; clear hq; cases q)
      · exact ⟨⟨k + 1, by go_num, by omega, Lib.hid (fun j y hj hy => by
          rcases Nat.lt_or_ge j k with h1 | h1
          · exact HN.out j y h1 hy
          · obtain rfl : j = k := by omega
            rw [HX.out] at hy
            injection hy with hy
            subst hy
            exact HQ.out), HB2⟩, by simp only [intOf]; omega⟩
      · go_ret
        exact ⟨by rw [idxP_hit p L k x HX.out HQ.out HN.out]; rfl, HB2.out⟩
    · obtain rfl : k = L.length := by omega
      have hI : ¬ (L.length : Int) < (L.length : Int) := by omega
      have HFIN := Lib.hid (idxP_miss p L fun j x hx => HN.out j x (List.getElem?_eq_some_iff.1 hx).1 hx)
      go_wp2
      go_ret
      exact ⟨by rw [HFIN.out]; rfl, HB.out⟩
set_option maxRecDepth 100000 in
set_option maxHeartbeats 2000000 in
theorem containsFnM_any (L : List MemV) (v : Value) (p : MemV → Bool) (fid : FuncId) (caps : Array Value) (w : World) (en : ∀ (args : Array Value) (W : World), (callFunc fid args).run Tryz.prog W = .ok (.enter fid args) W) (hp : ∀ (x : MemV) W, x ∈ L → Below w.heap.size w W → Calls Tryz.prog fid (#[.agg #[.bool x.permit, x.v]] ++ caps) W fun e W' => e = .returned (.bool (p x)) ∧ Below W.heap.size W W') (h : Rd w w.heap.size 2 v L.length (mcells L)) (hlen : L.length ≤ 9223372036854775807) :
    Calls Tryz.prog 24 #[v, .func (.func fid) #[] caps] w fun e w' => e = .returned (.bool (L.any p)) ∧ Below w.heap.size w w' := by
  have HI := Lib.hid (indexFnM_any L v p fid caps w en hp h hlen)
  obtain ⟨A, c, rfl, hc⟩ := h.form
  clear h hp en
  have hd := any_dec p L
  generalize idxP p L = q at *
  go_enter Tryz.func24, Tryz.ntmps24
  go_wp2_with ((with_reducible refine HI.out.mono ?_); rintro e w2 ⟨rfl, hb2⟩; have HB2 := Lib.hid hb2; clear hb2)
  go_ret
  exact ⟨by rw [← hd]; rfl, HB2.out⟩

set_option maxRecDepth 100000 in
set_option maxHeartbeats 2000000 in
theorem indexU_any (L : List Int) (v : Value) (y : Int) (w : World) (h : Rd w w.heap.size 1 v L.length (u32c L)) (hlen : L.length ≤ 9223372036854775807) :
    Calls Tryz.prog 45 #[v, .int .u32 y] w fun e w' => e = .returned (.int .i64 (idxP (fun x => x == y) L)) ∧ w' = w := by
  obtain ⟨A, c, rfl, hc⟩ := h.form
  have HR := Lib.hid h
  clear h
  go_enter Tryz.func45, Tryz.ntmps45
  go_wp2
  go_loopw [8] (fun i wr => ∃ k : Nat, i = .int .i64 k ∧ k ≤ L.length ∧ Hid (∀ (j : Nat) (x : Int), j < k → L[j]? = some x → (x == y) = false) ∧ wr = w) (fun i _ => L.length - (intOf i).toNat)
  case atStart => exact ⟨0, rfl, by omega, Lib.hid (fun j x hj _ => by omega), rfl⟩
  case round =>
    obtain ⟨k, rfl, hk, HN, rfl⟩ := hrel
    by_cases hlt : k < L.length
    · have hI : (k : Int) < (L.length : Int) := by omega
      obtain ⟨x, hx⟩ : ∃ x, L[k]? = some x := ⟨_, List.getElem?_eq_getElem hlt⟩
      obtain ⟨b, off, c', hv, _, hbB, hcell⟩ := HR.out.pos (by omega)
      injection hv with hv1 hvl hv3
      subst hv1 hv3
      clear hvl
      have c0 : wr.cell? ⟨b, off + k, none⟩ = some (.int .u32 x) := hcell k _ (u32c_get hx)
      have HX := Lib.hid hx
      clear hcell hx
      by_cases hq : y = x
      · subst hq
        go_wp2
        go_ret
        exact ⟨by rw [idxP_hit (fun x => x == y) L k y HX.out (by simp) HN.out]; rfl, rfl⟩
      · have hq2 : (y == x) = false := by simpa using hq
        go_wp2
        exact ⟨⟨k + 1, by go_num, by omega, Lib.hid (fun j z hj hz => by
          rcases Nat.lt_or_ge j k with h1 | h1
          · exact HN.out j z h1 hz
          · obtain rfl : j = k := by omega
            rw [HX.out] at hz
            injection hz with hz
            subst hz
            simpa using fun e : x = y => hq e.symm), (by first | trivial | rfl)⟩, by simp only [intOf]; omega⟩
    · obtain rfl : k = L.length := by omega
      have hI : ¬ (L.length : Int) < (L.length : Int) := by omega
      have HFIN := Lib.hid (idxP_miss (fun x => x == y) L fun j x hx => HN.out j x (List.getElem?_eq_some_iff.1 hx).1 hx)
      go_wp2
      go_ret
      exact ⟨by rw [HFIN.out]; rfl, rfl⟩
set_option maxRecDepth 100000 in
set_option maxHeartbeats 2000000 in
theorem containsU_any (L : List Int) (v : Value) (y : Int) (w : World) (h : Rd w w.heap.size 1 v L.length (u32c L)) (hlen : L.length ≤ 9223372036854775807) :
    Calls Tryz.prog 28 #[v, .int .u32 y] w fun e w' => e = .returned (.bool (L.any (fun x => x == y))) ∧ w' = w := by
  have HI := Lib.hid (indexU_any L v y w h hlen)
  obtain ⟨A, c, rfl, hc⟩ := h.form
  clear h
  have hd := any_dec (fun x => x == y) L
  generalize idxP (fun x => x == y) L = q at *
  go_enter Tryz.func28, Tryz.ntmps28
  go_wp2_with ((with_reducible refine HI.out.mono ?_); rintro e _ ⟨rfl, rfl⟩)
  go_ret
  exact ⟨by rw [← hd]; rfl, rfl⟩
end Go.Proofs.YthhcaoljejifeaaGreat

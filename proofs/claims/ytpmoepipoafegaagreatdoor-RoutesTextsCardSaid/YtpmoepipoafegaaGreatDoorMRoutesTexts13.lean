/-
  Joined texts: Rd9, RdA, RdL, Rd10, Rd6, Mix2.
-/
import Derived.Test.YtpmoepipoafegaaGreatDoorMRoutesTexts12
import Derived.Test.YtpmoepipoafegaaGreatDoorMRoutesTexts11
import Derived.Test.YtpmoepipoafegaaGreatDoorMRoutesTexts8
import Derived.Test.YtpmoepipoafegaaGreatDoorMRoutesTexts9
import Derived.Deep.DeepCutAuto
/-
  The document's AdvertText (written by wip/gen/genrd9.py).
-/
namespace Go.Proofs.YtpmoepipoafegaaGreatDoor
open Go Go.RowKit Go.Sort

theorem cat_word (L : List (List UInt8)) (h : L ≠ []) (q : List UInt8) : ((⟨(Lib.join L [32]).toArray⟩ : ByteArray) ++ ⟨#[32]⟩) ++ ⟨q.toArray⟩ = ⟨(Lib.join (L ++ [q]) [32]).toArray⟩ := by
  rw [join32_snoc _ _ h]
  exact byte_ext (by simp [ByteArray.data_append])
theorem cat_comm (L : List (List UInt8)) (h : L ≠ []) : (⟨(Lib.join L [32]).toArray⟩ : ByteArray) ++ ⟨#[32, 99, 111, 109, 109]⟩ = ⟨(Lib.join (L ++ [commW]) [32]).toArray⟩ := by
  rw [join32_snoc _ _ h]
  exact byte_ext (by simp [ByteArray.data_append, commW])
theorem cat_clus (L : List (List UInt8)) (h : L ≠ []) : (⟨(Lib.join L [32]).toArray⟩ : ByteArray) ++ ⟨#[32, 99, 108, 117, 115, 116, 101, 114, 115]⟩ = ⟨(Lib.join (L ++ [clusW]) [32]).toArray⟩ := by
  rw [join32_snoc _ _ h]
  exact byte_ext (by simp [ByteArray.data_append, clusW])
theorem cat_head (p h f m e i s o z : List UInt8) : (⟨(Lib.join [p, viaW, h, prefW, f, metrW, m, peerW, e, idW, i, s, origW, o, sessW, z, pathW] [32]).toArray⟩ : ByteArray) =
    (((((((((((((((((⟨p.toArray⟩ : ByteArray) ++ ⟨#[32, 118, 105, 97, 32]⟩) ++ ⟨h.toArray⟩) ++ ⟨#[32, 112, 114, 101, 102, 32]⟩) ++ ⟨f.toArray⟩) ++ ⟨#[32, 109, 101, 116, 114, 105, 99, 32]⟩) ++ ⟨m.toArray⟩) ++ ⟨#[32, 112, 101, 101, 114, 32]⟩) ++ ⟨e.toArray⟩) ++ ⟨#[32, 105, 100, 32]⟩) ++ ⟨i.toArray⟩) ++ ⟨#[32]⟩) ++ ⟨s.toArray⟩) ++ ⟨#[32, 111, 114, 105, 103, 105, 110, 32]⟩) ++ ⟨o.toArray⟩) ++ ⟨#[32, 115, 101, 115, 115, 105, 111, 110, 32]⟩) ++ ⟨z.toArray⟩) ++ ⟨#[32, 112, 97, 116, 104]⟩ := by
  rw [← joinC_join32]
  exact byte_ext (by simp [joinB32, ByteArray.data_append, viaW, prefW, metrW, peerW, idW, origW, sessW, pathW])
theorem refTextI_any (n : Int) (h : 0 ≤ n ∧ n < 4294967296) (W : World) : Calls Tryz.prog 29 #[.int .u32 n] W fun e w' => e = .returned (.string ⟨(addrT n).toArray⟩) ∧ Below W.heap.size W w' := by
  have k := refText_any n.toNat (by omega) W
  rw [Int.toNat_of_nonneg h.1] at k
  rw [show (⟨(addrT n).toArray⟩ : ByteArray) = textA n.toNat from by unfold addrT; exact byte_ext (by simp)]
  exact k
theorem av_cells {w : World} {g : Nat} {r : AvV} {vp vo vl : Value} (h : w.heap[g]? = some (avObj r vp vo vl)) : w.cell? ⟨g, 0, none⟩ = some (Value.int .u32 r.a) ∧ w.cell? ⟨g, 1, none⟩ = some (Value.int .i64 r.m) ∧ w.cell? ⟨g, 2, none⟩ = some (Value.int .u32 r.ho) ∧ w.cell? ⟨g, 3, none⟩ = some (Value.int .i64 r.pf) ∧ w.cell? ⟨g, 4, none⟩ = some (Value.int .i64 r.me) ∧ w.cell? ⟨g, 5, none⟩ = some (vp) ∧ w.cell? ⟨g, 6, none⟩ = some (vo) ∧ w.cell? ⟨g, 7, none⟩ = some (Value.int .u32 r.pe) ∧ w.cell? ⟨g, 8, none⟩ = some (Value.int .u32 r.id) ∧ w.cell? ⟨g, 9, none⟩ = some (Value.bool r.ex) ∧ w.cell? ⟨g, 10, none⟩ = some (Value.int .u32 r.og) ∧ w.cell? ⟨g, 11, none⟩ = some (vl) ∧ w.cell? ⟨g, 12, none⟩ = some (Value.int .i64 r.ss) := blk13 (t := 31) h
theorem addrT_len (n : Int) : (addrT n).length ≤ 15 := by
  have e : (textA n.toNat).data.toList.length = (textA n.toNat).size := Array.length_toList
  have := textA_size n.toNat
  unfold addrT
  omega
set_option maxRecDepth 100000 in
set_option maxHeartbeats 8000000 in
theorem refAvText_any (r : AvV) (vp vo vl : Value) (w : World) (hp : Rd w w.heap.size 1 vp r.pa.length (r.pa.map (Value.int .u32))) (ho : Rd w w.heap.size 1 vo r.co.length (r.co.map (Value.int .u32))) (hl : Rd w w.heap.size 1 vl r.cl.length (r.cl.map (Value.int .u32))) (hlen : r.pa.length + r.co.length + r.cl.length ≤ 10000) :
    Calls Tryz.prog 9 #[.agg #[.int .u32 r.a, .int .i64 r.m, .int .u32 r.ho, .int .i64 r.pf, .int .i64 r.me, vp, vo, .int .u32 r.pe, .int .u32 r.id, .bool r.ex, .int .u32 r.og, vl, .int .i64 r.ss]] w fun e w' => e = .returned (.tuple #[.string ⟨r.told.toArray⟩, .int .i64 r.toldE]) ∧ Below w.heap.size w w' := by
  obtain ⟨A1, C1, rfl, hc1⟩ := hp.form
  obtain ⟨A2, C2, rfl, hc2⟩ := ho.form
  obtain ⟨A3, C3, rfl, hc3⟩ := hl.form
  obtain ⟨n1, hn1⟩ : ∃ n, r.pa.length = n := ⟨_, rfl⟩
  obtain ⟨n2, hn2⟩ : ∃ n, r.co.length = n := ⟨_, rfl⟩
  obtain ⟨n3, hn3⟩ : ∃ n, r.cl.length = n := ⟨_, rfl⟩
  rw [hn1] at hp hlen hc1 ⊢
  rw [hn2] at ho hlen hc2 ⊢
  rw [hn3] at hl hlen hc3 ⊢
  have HN := Lib.hid (And.intro hn1 (And.intro hn2 hn3))
  have HP := Lib.hid (And.intro hp (And.intro ho hl))
  clear hp ho hl hc1 hc2 hc3 hn1 hn2 hn3
  have hk0 := heap_alloc_new w (avObj r (.slice A1 n1 C1) (.slice A2 n2 C2) (.slice A3 n3 C3))
  have hb0 := below1 w (avObj r (.slice A1 n1 C1) (.slice A2 n2 C2) (.slice A3 n3 C3))
  have hW : w.alloc (.cells #[.int .u32 r.a, .int .i64 r.m, .int .u32 r.ho, .int .i64 r.pf, .int .i64 r.me, (.slice A1 n1 C1), (.slice A2 n2 C2), .int .u32 r.pe, .int .u32 r.id, .bool r.ex, .int .u32 r.og, (.slice A3 n3 C3), .int .i64 r.ss] 31) = w.alloc (avObj r (.slice A1 n1 C1) (.slice A2 n2 C2) (.slice A3 n3 C3)) := rfl
  obtain ⟨c0, c1, c2, c3, c4, c5, c6, c7, c8, c9, c10, c11, c12⟩ := av_cells (r := r) hk0
  have HCk := Lib.hid (fun W => refCheck_any r.a r.m W r.ha.1 r.ha.2)
  have HFi := Lib.hid (fun n W => refFine_any n W)
  go_enter Tryz.func9, Tryz.ntmps9
  go_upto_region 1 with fail
  try rw [hW]
  generalize (Value.agg #[.int .u32 r.a, .int .i64 r.m, .int .u32 r.ho, .int .i64 r.pf, .int .i64 r.me, (.slice A1 n1 C1), (.slice A2 n2 C2), .int .u32 r.pe, .int .u32 r.id, .bool r.ex, .int .u32 r.og, (.slice A3 n3 C3), .int .i64 r.ss] : Value) = vr at *
  go_cut [36] (fun s36 wx => s36 = .bool (!r.ok) ∧ Hid (wx.heap[w.heap.size]? = some (avObj r (.slice A1 n1 C1) (.slice A2 n2 C2) (.slice A3 n3 C3)) ∧ Below w.heap.size w wx))
  case first =>
    generalize w.alloc (avObj r (.slice A1 n1 C1) (.slice A2 n2 C2) (.slice A3 n3 C3)) = W0 at *
    clear hW
    go_wp2_with fail
    refine (HCk.out _).mono ?_
    rintro e w1 ⟨rfl, hb⟩
    have hk1 := blk_below hb hk0
    have hb1 := below_call hb0 hb
    clear hb hb0 hk0 c0 c1 c2 c3 c4 c5 c6 c7 c8 c9 c10 c11 c12
    obtain ⟨c0, c1, c2, c3, c4, c5, c6, c7, c8, c9, c10, c11, c12⟩ := av_cells (r := r) hk1
    by_cases q0 : chk r.a r.m = 0
    · have d0 : (chk r.a r.m != 0) = false := by simpa using q0
      go_wp2_with fail
      refine (HFi.out r.pf _).mono ?_
      rintro e w2 ⟨rfl, hb⟩
      have hk2 := blk_below hb hk1
      have hb2 := below_call hb1 hb
      clear hb hb1 hk1 c0 c1 c2 c3 c4 c5 c6 c7 c8 c9 c10 c11 c12
      obtain ⟨c0, c1, c2, c3, c4, c5, c6, c7, c8, c9, c10, c11, c12⟩ := av_cells (r := r) hk2
      by_cases p1 : fineB r.pf = true
      · skip
        go_wp2_with fail
        refine (HFi.out r.me _).mono ?_
        rintro e w3 ⟨rfl, hb⟩
        have hk3 := blk_below hb hk2
        have hb3 := below_call hb2 hb
        clear hb hb2 hk2 c0 c1 c2 c3 c4 c5 c6 c7 c8 c9 c10 c11 c12
        obtain ⟨c0, c1, c2, c3, c4, c5, c6, c7, c8, c9, c10, c11, c12⟩ := av_cells (r := r) hk3
        by_cases p2 : fineB r.me = true
        · skip
          by_cases q3 : r.ss = -1
          · have d3 : (r.ss != -1) = false := by simpa using q3
            go_wp2_with fail
            go_meet
            exact ⟨by rw [av_ok_iff.2 ⟨q0, ⟨p1, p2⟩, Or.inl q3⟩]; rfl, Lib.hid ⟨hk3, hb3⟩⟩
          · have d3 : (r.ss != -1) = true := by simpa using q3
            go_wp2_with fail
            refine (HFi.out r.ss _).mono ?_
            rintro e w4 ⟨rfl, hb⟩
            have hk4 := blk_below hb hk3
            have hb4 := below_call hb3 hb
            clear hb hb3 hk3 c0 c1 c2 c3 c4 c5 c6 c7 c8 c9 c10 c11 c12
            obtain ⟨c0, c1, c2, c3, c4, c5, c6, c7, c8, c9, c10, c11, c12⟩ := av_cells (r := r) hk4
            by_cases p3 : fineB r.ss = true
            · skip
              go_wp2_with fail
              go_meet
              exact ⟨by rw [av_ok_iff.2 ⟨q0, ⟨p1, p2⟩, Or.inr p3⟩]; rfl, Lib.hid ⟨hk4, hb4⟩⟩
            · replace p3 := Bool.eq_false_iff.2 p3
              go_wp2_with fail
              go_meet
              exact ⟨by rw [av_ok_no (fun h => by rcases h.2.2 with h' | h'; exact q3 h'; rw [p3] at h'; cases h')]; rfl, Lib.hid ⟨hk4, hb4⟩⟩
        · replace p2 := Bool.eq_false_iff.2 p2
          go_wp2_with fail
          go_meet
          exact ⟨by rw [av_ok_no (fun h => by have h' := h.2.1.2; rw [p2] at h'; cases h')]; rfl, Lib.hid ⟨hk3, hb3⟩⟩
      · replace p1 := Bool.eq_false_iff.2 p1
        go_wp2_with fail
        go_meet
        exact ⟨by rw [av_ok_no (fun h => by have h' := h.2.1.1; rw [p1] at h'; cases h')]; rfl, Lib.hid ⟨hk2, hb2⟩⟩
    · have d0 : (chk r.a r.m != 0) = true := by simpa using q0
      go_wp2_with fail
      go_meet
      exact ⟨by rw [av_ok_no (fun h => q0 h.1)]; rfl, Lib.hid ⟨hk1, hb1⟩⟩
  case rest =>
    obtain ⟨rfl, hcut⟩ := hcut
    rename World => wa
    clear hk0 hb0 HCk HFi c0 c1 c2 c3 c4 c5 c6 c7 c8 c9 c10 c11 c12
    cases hok : r.ok with
    | false =>
      have ht := Lib.hid (av_told_no hok)
      have hbw := hcut.out.2
      clear hok
      go_wp2
      go_ret2
      exact ⟨by rw [ht.out.1, ht.out.2]; rfl, hbw⟩
    | true =>
      have ht := Lib.hid (av_told_yes hok)
      have HOK := Lib.hid (av_ok hok)
      clear hok
      have hka := hcut.out.1
      obtain ⟨c0, c1, c2, c3, c4, c5, c6, c7, c8, c9, c10, c11, c12⟩ := av_cells (r := r) hka
      clear hka
      go_upto_if 38 with fail
      go_cut [4] (fun s4 wx => s4 = .string ⟨(sideT r.ex).toArray⟩ ∧ Hid (wx.heap[w.heap.size]? = some (avObj r (.slice A1 n1 C1) (.slice A2 n2 C2) (.slice A3 n3 C3)) ∧ Below w.heap.size w wx))
      case first =>
        cases hx : r.ex
        all_goals (
          go_wp2_with fail
          go_meet
          exact ⟨by rw [hx]; rfl, Lib.hid hcut.out⟩)
      case rest =>
        obtain ⟨rfl, hcut2⟩ := hcut
        rename World => wb
        clear hcut c0 c1 c2 c3 c4 c5 c6 c7 c8 c9 c10 c11 c12
        have hka := hcut2.out.1
        obtain ⟨c0, c1, c2, c3, c4, c5, c6, c7, c8, c9, c10, c11, c12⟩ := av_cells (r := r) hka
        clear hka
        go_upto_if 41 with fail
        go_cut [5] (fun s5 wx => s5 = .string ⟨(sessT r.ss).toArray⟩ ∧ Hid (wx.heap[w.heap.size]? = some (avObj r (.slice A1 n1 C1) (.slice A2 n2 C2) (.slice A3 n3 C3)) ∧ Below w.heap.size w wx))
        case first =>
          by_cases q : r.ss = -1
          · have hI : ¬ r.ss ≥ 0 := by omega
            have hsT := Lib.hid (show sessT r.ss = oneW from if_pos q)
            clear q
            try simp only [hI]
            go_wp2_with fail
            go_meet
            exact ⟨by rw [hsT.out]; rfl, hcut2⟩
          · have l4 := HOK.out.2.2.2.resolve_left q
            have hI : r.ss ≥ 0 := by omega
            have hsT := Lib.hid (show sessT r.ss = Lib.decDigits r.ss.toNat from if_neg q)
            have KN := Lib.hid (fun W => refNumI_any r.ss l4.1 (by omega) W)
            clear q l4
            try simp only [hI]
            go_wp2_with fail
            refine (KN.out _).mono ?_
            rintro e wx ⟨rfl, hb⟩
            go_wp2_with fail
            go_meet
            exact ⟨by rw [hsT.out], Lib.hid ⟨blk_below hb hcut2.out.1, below_call hcut2.out.2 hb⟩⟩
        case rest =>
          obtain ⟨rfl, hcut⟩ := hcut
          obtain ⟨hk, hbw⟩ := hcut.out
          rename World => wc
          clear hcut hcut2 c0 c1 c2 c3 c4 c5 c6 c7 c8 c9 c10 c11 c12
          obtain ⟨k1, k2, k3, k4⟩ := HOK.out
          have kc := chk_ok k1
          have KP := Lib.hid (show ∀ W, Calls Tryz.prog 27 #[.agg #[.int .u32 r.a, .int .i64 r.m]] W _ from fun W => refPrefI_any r.a r.m r.ha r.hm.1 r.hm.2 W)
          have KH := Lib.hid (fun W => refTextI_any r.ho r.hho W)
          have KF := Lib.hid (show ∀ W, Calls Tryz.prog 28 #[.int .i64 r.pf] W _ from fun W => refNumI_any r.pf k2.1 (by omega) W)
          have KM := Lib.hid (show ∀ W, Calls Tryz.prog 28 #[.int .i64 r.me] W _ from fun W => refNumI_any r.me k3.1 (by omega) W)
          have KE := Lib.hid (fun W => refTextI_any r.pe r.hpe W)
          have KI := Lib.hid (fun W => refTextI_any r.id r.hid W)
          have KO := Lib.hid (fun W => refTextI_any r.og r.hog W)
          have z0 := bl_sizeR (prefT_len (a := r.a) kc.1 kc.2.1)
          have z1 := bl_sizeR (addrT_len r.ho)
          have z2 := bl_sizeR (dec32 (n := r.pf.toNat) (by omega))
          have z3 := bl_sizeR (dec32 (n := r.me.toNat) (by omega))
          have z4 := bl_sizeR (addrT_len r.pe)
          have z5 := bl_sizeR (addrT_len r.id)
          have z6 := bl_sizeR (show (sideT r.ex).length ≤ 8 by cases r.ex <;> decide)
          have z7 := bl_sizeR (addrT_len r.og)
          have z8 := bl_sizeR (show (sessT r.ss).length ≤ 10 by
            unfold sessT
            split
            · decide
            · rename_i h; have := k4.resolve_left h; exact dec32 (by omega))
          obtain ⟨W5, hW5⟩ : ∃ W5 : List (List UInt8), W5 = r.head := ⟨_, rfl⟩
          have hne : W5 ≠ [] := by rw [hW5]; exact List.cons_ne_nil _ _
          have hT5 := cat_head (prefT r.a r.m) (addrT r.ho) (Lib.decDigits r.pf.toNat) (Lib.decDigits r.me.toNat) (addrT r.pe) (addrT r.id) (sideT r.ex) (addrT r.og) (sessT r.ss)
          have hT6 := (show (⟨(Lib.join W5 [32]).toArray⟩ : ByteArray) = ⟨(Lib.join r.head [32]).toArray⟩ by rw [hW5]).trans hT5
          clear hT5
          have hwd : r.text = Lib.join (W5 ++ r.tail) [32] := by rw [hW5]; rfl
          have HWD := Lib.hid hwd
          have z9 : (⟨(Lib.join W5 [32]).toArray⟩ : ByteArray).size ≤ 400 := by
            rw [hT6]
            simp only [ByteArray.size_append]
            have e1 : (⟨#[32, 118, 105, 97, 32]⟩ : ByteArray).size = 5 := rfl
            have e2 : (⟨#[32, 112, 114, 101, 102, 32]⟩ : ByteArray).size = 6 := rfl
            have e3 : (⟨#[32, 109, 101, 116, 114, 105, 99, 32]⟩ : ByteArray).size = 8 := rfl
            have e4 : (⟨#[32, 112, 101, 101, 114, 32]⟩ : ByteArray).size = 6 := rfl
            have e5 : (⟨#[32, 105, 100, 32]⟩ : ByteArray).size = 4 := rfl
            have e6 : (⟨#[32]⟩ : ByteArray).size = 1 := rfl
            have e7 : (⟨#[32, 111, 114, 105, 103, 105, 110, 32]⟩ : ByteArray).size = 8 := rfl
            have e8 : (⟨#[32, 115, 101, 115, 115, 105, 111, 110, 32]⟩ : ByteArray).size = 9 := rfl
            have e9 : (⟨#[32, 112, 97, 116, 104]⟩ : ByteArray).size = 5 := rfl
            omega
          obtain ⟨T5, hT⟩ : ∃ T5 : ByteArray, T5 = ⟨(Lib.join W5 [32]).toArray⟩ := ⟨_, rfl⟩
          rw [← hT] at z9 hT6
          have HTT := Lib.hid hT
          have HT5 := Lib.hid hT6
          have HNE := Lib.hid hne
          clear hT hne hW5 hT6 hwd k1 k2 k3 k4 kc
          obtain ⟨c0, c1, c2, c3, c4, c5, c6, c7, c8, c9, c10, c11, c12⟩ := av_cells (r := r) hk
          go_upto_region 8 with fail
          go_cut [6] (fun s6 wx => s6 = .string T5 ∧ Hid (wx.heap[w.heap.size]? = some (avObj r (.slice A1 n1 C1) (.slice A2 n2 C2) (.slice A3 n3 C3)) ∧ Below w.heap.size w wx))
          case first =>
            have F0 := cell_regrown c0; have F1 := cell_regrown c1; have F2 := cell_regrown c2; have F3 := cell_regrown c3; have F4 := cell_regrown c4; have F5 := cell_regrown c5; have F6 := cell_regrown c6; have F7 := cell_regrown c7; have F8 := cell_regrown c8; have F9 := cell_regrown c9; have F10 := cell_regrown c10; have F11 := cell_regrown c11; have F12 := cell_regrown c12
            clear c0 c1 c2 c3 c4 c5 c6 c7 c8 c9 c10 c11 c12 z9
            generalize (⟨(prefT r.a r.m).toArray⟩ : ByteArray) = q0 at *
            generalize (⟨(addrT r.ho).toArray⟩ : ByteArray) = q1 at *
            generalize (⟨(Lib.decDigits r.pf.toNat).toArray⟩ : ByteArray) = q2 at *
            generalize (⟨(Lib.decDigits r.me.toNat).toArray⟩ : ByteArray) = q3 at *
            generalize (⟨(addrT r.pe).toArray⟩ : ByteArray) = q4 at *
            generalize (⟨(addrT r.id).toArray⟩ : ByteArray) = q5 at *
            generalize (⟨(sideT r.ex).toArray⟩ : ByteArray) = q6 at *
            generalize (⟨(addrT r.og).toArray⟩ : ByteArray) = q7 at *
            generalize (⟨(sessT r.ss).toArray⟩ : ByteArray) = q8 at *
            refine wp_region_quiet_below (by kernel_rfl) (by kernel_rfl) ?_
            repeat (first | go_big_quiet_step ((first | (go_at_call 27; with_reducible exact Calls.regrown_of (KP.out _)) | (go_at_call 29; with_reducible exact Calls.regrown_of (KH.out _)) | (go_at_call 29; with_reducible exact Calls.regrown_of (KE.out _)) | (go_at_call 29; with_reducible exact Calls.regrown_of (KI.out _)) | (go_at_call 29; with_reducible exact Calls.regrown_of (KO.out _)) | (go_at_call 28; with_reducible exact Calls.regrown_of (KF.out _)) | (go_at_call 28; with_reducible exact Calls.regrown_of (KM.out _)))) | quiet_step ((first | (go_at_call 27; with_reducible exact Calls.regrown_of (KP.out _)) | (go_at_call 29; with_reducible exact Calls.regrown_of (KH.out _)) | (go_at_call 29; with_reducible exact Calls.regrown_of (KE.out _)) | (go_at_call 29; with_reducible exact Calls.regrown_of (KI.out _)) | (go_at_call 29; with_reducible exact Calls.regrown_of (KO.out _)) | (go_at_call 28; with_reducible exact Calls.regrown_of (KF.out _)) | (go_at_call 28; with_reducible exact Calls.regrown_of (KM.out _)))))
            refine wpQuiet_nil ?_
            intro _ hw'
            obtain ⟨⟨nq, osq⟩, hw''⟩ := hw'
            subst hw''
            go_wp2_with fail
            go_meet
            have hbr := below_regrown wc nq osq
            exact ⟨by rw [HT5.out], Lib.hid ⟨blk_below hbr hk, below_call hbw hbr⟩⟩
          case rest =>
            obtain ⟨rfl, hcut⟩ := hcut
            rename World => wq
            clear hk hbw KP KH KF KM KE KI KO z0 z1 z2 z3 z4 z5 z6 z7 z8 c0 c1 c2 c3 c4 c5 c6 c7 c8 c9 c10 c11 c12
            have KN := Lib.hid (fun (n : Int) (h : 0 ≤ n ∧ n < 4294967296) W => refNumI_any n h.1 (by omega) W)
            have KT := Lib.hid (fun (n : Int) (h : 0 ≤ n ∧ n < 4294967296) W => refTextI_any n h W)
            go_wp2_with fail
            go_loopw [6, 7] (fun s6 i wx => ∃ (k : Nat) (S : ByteArray), s6 = .string S ∧ i = .int .i64 k ∧ k ≤ n1 ∧ Hid (S = ⟨(Lib.join (W5 ++ (r.pa.take k).map decT) [32]).toArray⟩) ∧ S.size ≤ 400 + 11 * k ∧ Hid (wx.heap[w.heap.size]? = some (avObj r (.slice A1 n1 C1) (.slice A2 n2 C2) (.slice A3 n3 C3)) ∧ Below w.heap.size w wx)) (fun _ i _ => n1 - (intOf i).toNat)
            case atStart => exact ⟨0, T5, rfl, rfl, Nat.zero_le _, Lib.hid (by simpa using HTT.out), by omega, hcut⟩
            case round =>
              obtain ⟨k, S, rfl, rfl, hk, HS, hz, HB⟩ := hrel
              rename World => wr
              have hka := HB.out.1
              obtain ⟨c0, c1, c2, c3, c4, c5, c6, c7, c8, c9, c10, c11, c12⟩ := av_cells (r := r) hka
              clear hka
              by_cases hlt : k < n1
              · have hI : (k : Int) < (n1 : Int) := by omega
                have hlt' := Lib.hid (show k < r.pa.length by rw [HN.out.1]; exact hlt)
                obtain ⟨x, hx⟩ : ∃ x, r.pa[k]? = some x := ⟨_, List.getElem?_eq_getElem hlt'.out⟩
                have hxr := r.hpa x (List.mem_of_getElem? hx)
                obtain ⟨b, off, d, hv, _, _, hcell⟩ := (HP.out.1.below HB.out.2).posAt (by omega)
                injection hv with hv1 _ hv3
                subst hv1 hv3
                have e0 : wr.cell? ⟨b, off + k, none⟩ = some (.int .u32 x) := by
                  have := hcell k 0 (.int .u32 x) (by simp [hx])
                  rwa [Nat.mul_one, Nat.add_zero] at this
                have hw := Lib.hid (cat_word _ (show W5 ++ (r.pa.take k).map decT ≠ [] from fun h => HNE.out (List.append_eq_nil_iff.1 h).1) (decT x))
                have hm := Lib.hid (show W5 ++ (r.pa.take k).map decT ++ [decT x] = W5 ++ (r.pa.take (k + 1)).map decT by rw [List.take_add_one, hx]; simp)
                have hq := bl_sizeR (show (decT x).length ≤ 10 from dec32 (by omega))
                have hcall := Lib.hid (KN.out x hxr)
                clear hcell hx
                obtain ⟨Q, hQ⟩ : ∃ Q : ByteArray, Q = ⟨(decT x).toArray⟩ := ⟨_, rfl⟩
                have HQ := Lib.hid hQ
                rw [← hQ] at hq
                clear hQ
                go_wp2_with fail
                refine (hcall.out _).mono ?_
                rintro e wz ⟨rfl, hb⟩
                have HBz := Lib.hid (And.intro (blk_below hb HB.out.1) (below_call HB.out.2 hb))
                try rw [← HQ.out]
                try rw [show (⟨(Lib.decDigits x.toNat).toArray⟩ : ByteArray) = Q from HQ.out.symm]
                clear hb e0 c0 c1 c2 c3 c4 c5 c6 c7 c8 c9 c10 c11 c12
                have hz1 : S.size + 1 + Q.size ≤ 400 + 11 * (k + 1) := by omega
                have hz2 : ((S ++ ⟨#[32]⟩) ++ Q).size ≤ 400 + 11 * (k + 1) := by
                  rw [ByteArray.size_append, ByteArray.size_append]
                  exact hz1
                go_wp2
                exact ⟨⟨k + 1, (S ++ ⟨#[32]⟩) ++ Q, rfl, by go_num, by omega, Lib.hid (by rw [HS.out, HQ.out, hw.out, hm.out]), hz2, HBz⟩, by simp only [intOf]; omega⟩
              · obtain rfl : n1 = k := by omega
                have hI : ¬ ((n1 : Nat) : Int) < (n1 : Int) := by omega
                have HJ := Lib.hid (show S = ⟨(Lib.join (W5 ++ r.pa.map decT) [32]).toArray⟩ by rw [HS.out, List.take_of_length_le (by rw [HN.out.1]; exact Nat.le_refl _)])
                clear HS hlt
                have HNE1 := Lib.hid (show (W5 ++ r.pa.map decT ++ [commW]) ≠ [] from fun h => by simp at h)
                obtain ⟨H1, hH1⟩ : ∃ H, H = (W5 ++ r.pa.map decT ++ [commW]) := ⟨_, rfl⟩
                have HJ1 := Lib.hid (show (S ++ ⟨#[32, 99, 111, 109, 109]⟩) = ⟨(Lib.join H1 [32]).toArray⟩ by rw [HJ.out, cat_comm _ (fun h => HNE.out (List.append_eq_nil_iff.1 h).1), hH1])
                rw [← hH1] at HNE1
                have HH1 := Lib.hid hH1
                have HB1 := HB
                have hz1 : (S ++ ⟨#[32, 99, 111, 109, 109]⟩).size ≤ 400 + 11 * n1 + 5 := by
                  rw [ByteArray.size_append]
                  have e : (⟨#[32, 99, 111, 109, 109]⟩ : ByteArray).size = 5 := rfl
                  omega
                clear HJ hH1
                go_upto_region 14 with fail
                clear c0 c1 c2 c3 c4 c5 c6 c7 c8 c9 c10 c11 c12 HB
                generalize (S ++ ⟨#[32, 99, 111, 109, 109]⟩) = T1 at *
                go_wp2_with fail
                go_loopw [6, 8] (fun s6 i wx => ∃ (k : Nat) (S : ByteArray), s6 = .string S ∧ i = .int .i64 k ∧ k ≤ n2 ∧ Hid (S = ⟨(Lib.join (H1 ++ (r.co.take k).map decT) [32]).toArray⟩) ∧ S.size ≤ (400 + 11 * n1 + 5) + 11 * k ∧ Hid (wx.heap[w.heap.size]? = some (avObj r (.slice A1 n1 C1) (.slice A2 n2 C2) (.slice A3 n3 C3)) ∧ Below w.heap.size w wx)) (fun _ i _ => n2 - (intOf i).toNat)
                case atStart => exact ⟨0, T1, rfl, rfl, Nat.zero_le _, Lib.hid (by simpa using HJ1.out), by omega, HB1⟩
                case round =>
                  obtain ⟨k, S, rfl, rfl, hk, HS, hz, HB⟩ := hrel
                  rename World => wr
                  have hka := HB.out.1
                  obtain ⟨c0, c1, c2, c3, c4, c5, c6, c7, c8, c9, c10, c11, c12⟩ := av_cells (r := r) hka
                  clear hka
                  by_cases hlt : k < n2
                  · have hI : (k : Int) < (n2 : Int) := by omega
                    have hlt' := Lib.hid (show k < r.co.length by rw [HN.out.2.1]; exact hlt)
                    obtain ⟨x, hx⟩ : ∃ x, r.co[k]? = some x := ⟨_, List.getElem?_eq_getElem hlt'.out⟩
                    have hxr := r.hco x (List.mem_of_getElem? hx)
                    obtain ⟨b, off, d, hv, _, _, hcell⟩ := (HP.out.2.1.below HB.out.2).posAt (by omega)
                    injection hv with hv1 _ hv3
                    subst hv1 hv3
                    have e0 : wr.cell? ⟨b, off + k, none⟩ = some (.int .u32 x) := by
                      have := hcell k 0 (.int .u32 x) (by simp [hx])
                      rwa [Nat.mul_one, Nat.add_zero] at this
                    have hw := Lib.hid (cat_word _ (show H1 ++ (r.co.take k).map decT ≠ [] from fun h => HNE1.out (List.append_eq_nil_iff.1 h).1) (decT x))
                    have hm := Lib.hid (show H1 ++ (r.co.take k).map decT ++ [decT x] = H1 ++ (r.co.take (k + 1)).map decT by rw [List.take_add_one, hx]; simp)
                    have hq := bl_sizeR (show (decT x).length ≤ 10 from dec32 (by omega))
                    have hcall := Lib.hid (KN.out x hxr)
                    clear hcell hx
                    obtain ⟨Q, hQ⟩ : ∃ Q : ByteArray, Q = ⟨(decT x).toArray⟩ := ⟨_, rfl⟩
                    have HQ := Lib.hid hQ
                    rw [← hQ] at hq
                    clear hQ
                    go_wp2_with fail
                    refine (hcall.out _).mono ?_
                    rintro e wz ⟨rfl, hb⟩
                    have HBz := Lib.hid (And.intro (blk_below hb HB.out.1) (below_call HB.out.2 hb))
                    try rw [← HQ.out]
                    try rw [show (⟨(Lib.decDigits x.toNat).toArray⟩ : ByteArray) = Q from HQ.out.symm]
                    clear hb e0 c0 c1 c2 c3 c4 c5 c6 c7 c8 c9 c10 c11 c12
                    have hz1 : S.size + 1 + Q.size ≤ (400 + 11 * n1 + 5) + 11 * (k + 1) := by omega
                    have hz2 : ((S ++ ⟨#[32]⟩) ++ Q).size ≤ (400 + 11 * n1 + 5) + 11 * (k + 1) := by
                      rw [ByteArray.size_append, ByteArray.size_append]
                      exact hz1
                    go_wp2
                    exact ⟨⟨k + 1, (S ++ ⟨#[32]⟩) ++ Q, rfl, by go_num, by omega, Lib.hid (by rw [HS.out, HQ.out, hw.out, hm.out]), hz2, HBz⟩, by simp only [intOf]; omega⟩
                  · obtain rfl : n2 = k := by omega
                    have hI : ¬ ((n2 : Nat) : Int) < (n2 : Int) := by omega
                    have HJ := Lib.hid (show S = ⟨(Lib.join (H1 ++ r.co.map decT) [32]).toArray⟩ by rw [HS.out, List.take_of_length_le (by rw [HN.out.2.1]; exact Nat.le_refl _)])
                    clear HS hlt
                    have HNE2 := Lib.hid (show (H1 ++ r.co.map decT ++ [clusW]) ≠ [] from fun h => by simp at h)
                    obtain ⟨H2, hH2⟩ : ∃ H, H = (H1 ++ r.co.map decT ++ [clusW]) := ⟨_, rfl⟩
                    have HJ2 := Lib.hid (show (S ++ ⟨#[32, 99, 108, 117, 115, 116, 101, 114, 115]⟩) = ⟨(Lib.join H2 [32]).toArray⟩ by rw [HJ.out, cat_clus _ (fun h => HNE1.out (List.append_eq_nil_iff.1 h).1), hH2])
                    rw [← hH2] at HNE2
                    have HH2 := Lib.hid hH2
                    have HB2 := HB
                    have hz2 : (S ++ ⟨#[32, 99, 108, 117, 115, 116, 101, 114, 115]⟩).size ≤ (400 + 11 * n1 + 5) + 11 * n2 + 9 := by
                      rw [ByteArray.size_append]
                      have e : (⟨#[32, 99, 108, 117, 115, 116, 101, 114, 115]⟩ : ByteArray).size = 9 := rfl
                      omega
                    clear HJ hH2
                    go_upto_region 19 with fail
                    clear c0 c1 c2 c3 c4 c5 c6 c7 c8 c9 c10 c11 c12 HB
                    generalize (S ++ ⟨#[32, 99, 108, 117, 115, 116, 101, 114, 115]⟩) = T2 at *
                    go_wp2_with fail
                    go_loopw [6, 9] (fun s6 i wx => ∃ (k : Nat) (S : ByteArray), s6 = .string S ∧ i = .int .i64 k ∧ k ≤ n3 ∧ Hid (S = ⟨(Lib.join (H2 ++ (r.cl.take k).map addrT) [32]).toArray⟩) ∧ S.size ≤ ((400 + 11 * n1 + 5) + 11 * n2 + 9) + 16 * k ∧ Hid (wx.heap[w.heap.size]? = some (avObj r (.slice A1 n1 C1) (.slice A2 n2 C2) (.slice A3 n3 C3)) ∧ Below w.heap.size w wx)) (fun _ i _ => n3 - (intOf i).toNat)
                    case atStart => exact ⟨0, T2, rfl, rfl, Nat.zero_le _, Lib.hid (by simpa using HJ2.out), by omega, HB2⟩
                    case round =>
                      obtain ⟨k, S, rfl, rfl, hk, HS, hz, HB⟩ := hrel
                      rename World => wr
                      have hka := HB.out.1
                      obtain ⟨c0, c1, c2, c3, c4, c5, c6, c7, c8, c9, c10, c11, c12⟩ := av_cells (r := r) hka
                      clear hka
                      by_cases hlt : k < n3
                      · have hI : (k : Int) < (n3 : Int) := by omega
                        have hlt' := Lib.hid (show k < r.cl.length by rw [HN.out.2.2]; exact hlt)
                        obtain ⟨x, hx⟩ : ∃ x, r.cl[k]? = some x := ⟨_, List.getElem?_eq_getElem hlt'.out⟩
                        have hxr := r.hcl x (List.mem_of_getElem? hx)
                        obtain ⟨b, off, d, hv, _, _, hcell⟩ := (HP.out.2.2.below HB.out.2).posAt (by omega)
                        injection hv with hv1 _ hv3
                        subst hv1 hv3
                        have e0 : wr.cell? ⟨b, off + k, none⟩ = some (.int .u32 x) := by
                          have := hcell k 0 (.int .u32 x) (by simp [hx])
                          rwa [Nat.mul_one, Nat.add_zero] at this
                        have hw := Lib.hid (cat_word _ (show H2 ++ (r.cl.take k).map addrT ≠ [] from fun h => HNE2.out (List.append_eq_nil_iff.1 h).1) (addrT x))
                        have hm := Lib.hid (show H2 ++ (r.cl.take k).map addrT ++ [addrT x] = H2 ++ (r.cl.take (k + 1)).map addrT by rw [List.take_add_one, hx]; simp)
                        have hq := bl_sizeR (addrT_len x)
                        have hcall := Lib.hid (KT.out x hxr)
                        clear hcell hx
                        obtain ⟨Q, hQ⟩ : ∃ Q : ByteArray, Q = ⟨(addrT x).toArray⟩ := ⟨_, rfl⟩
                        have HQ := Lib.hid hQ
                        rw [← hQ] at hq
                        clear hQ
                        go_wp2_with fail
                        refine (hcall.out _).mono ?_
                        rintro e wz ⟨rfl, hb⟩
                        have HBz := Lib.hid (And.intro (blk_below hb HB.out.1) (below_call HB.out.2 hb))
                        try rw [← HQ.out]
                        try rw [show (⟨(Lib.decDigits x.toNat).toArray⟩ : ByteArray) = Q from HQ.out.symm]
                        clear hb e0 c0 c1 c2 c3 c4 c5 c6 c7 c8 c9 c10 c11 c12
                        have hz1 : S.size + 1 + Q.size ≤ ((400 + 11 * n1 + 5) + 11 * n2 + 9) + 16 * (k + 1) := by omega
                        have hz2 : ((S ++ ⟨#[32]⟩) ++ Q).size ≤ ((400 + 11 * n1 + 5) + 11 * n2 + 9) + 16 * (k + 1) := by
                          rw [ByteArray.size_append, ByteArray.size_append]
                          exact hz1
                        go_wp2
                        exact ⟨⟨k + 1, (S ++ ⟨#[32]⟩) ++ Q, rfl, by go_num, by omega, Lib.hid (by rw [HS.out, HQ.out, hw.out, hm.out]), hz2, HBz⟩, by simp only [intOf]; omega⟩
                      · obtain rfl : n3 = k := by omega
                        have hI : ¬ ((n3 : Nat) : Int) < (n3 : Int) := by omega
                        have HJ := Lib.hid (show S = ⟨(Lib.join (H2 ++ r.cl.map addrT) [32]).toArray⟩ by rw [HS.out, List.take_of_length_le (by rw [HN.out.2.2]; exact Nat.le_refl _)])
                        clear HS hlt
                        have HF := Lib.hid (show S = ⟨r.text.toArray⟩ by rw [HJ.out, HWD.out, HH2.out, HH1.out]; simp [AvV.tail])
                        have hbw := HB.out.2
                        clear HJ
                        go_wp2
                        go_ret2
                        exact ⟨by rw [ht.out.1, ht.out.2, HF.out]; rfl, hbw⟩
end Go.Proofs.YtpmoepipoafegaaGreatDoor

/-
  What the document reads of the words of an advert's lists, step by step: plain laws; no walk.
-/
namespace Go.Proofs.YtpmoepipoafegaaGreatDoor
open Go Go.RowKit Go.Sort

/-- What has been read before the k-th word behind the head. -/
structure AInv (R : List (List UInt8)) (k part : Nat) (pa co cl : List Int) : Prop where
  prt : (scan0.run (R.take k)).part = part
  lp : ListRel NumRel (scan0.run (R.take k)).pw pa
  lo : ListRel NumRel (scan0.run (R.take k)).cw co
  ll : ListRel AddrRel (scan0.run (R.take k)).lw cl
  up : u32s pa
  uo : u32s co
  ul : u32s cl
theorem ainv_start (R : List (List UInt8)) : AInv R 0 0 [] [] [] := ⟨rfl, listRel_nil _, listRel_nil _, listRel_nil _, u32s_nil, u32s_nil, u32s_nil⟩
theorem take_snocL {α} {R : List α} {k : Nat} {x : α} (hx : R[k]? = some x) : R.take (k + 1) = R.take k ++ [x] := by
  rw [List.take_add_one, hx]; rfl
theorem u32s_snocA {l : List Int} {x : Int} (h : u32s l) (h0 : 0 ≤ x ∧ x < 4294967296) : u32s (l ++ [x]) := by
  intro y hy
  rcases List.mem_append.1 hy with hy | hy
  · exact h y hy
  · simp only [List.mem_cons, List.not_mem_nil, or_false] at hy
    rw [hy]; exact h0
theorem mod32 (x : Int) : 0 ≤ x % 4294967296 ∧ x % 4294967296 < 4294967296 := by omega
theorem ainv_comm {R : List (List UInt8)} {k : Nat} {pa co cl : List Int} (h : AInv R k 0 pa co cl) (hx : R[k]? = some commW) : AInv R (k + 1) 1 pa co cl := by
  have e : scan0.run (R.take (k + 1)) = { scan0.run (R.take k) with part := 1 } := by
    rw [take_snocL hx, run_snoc, DScan.step, if_pos ⟨rfl, h.prt⟩]
  exact ⟨by rw [e], by rw [e]; exact h.lp, by rw [e]; exact h.lo, by rw [e]; exact h.ll, h.up, h.uo, h.ul⟩
theorem ainv_clus {R : List (List UInt8)} {k : Nat} {pa co cl : List Int} (h : AInv R k 1 pa co cl) (hx : R[k]? = some clusW) : AInv R (k + 1) 2 pa co cl := by
  have e : scan0.run (R.take (k + 1)) = { scan0.run (R.take k) with part := 2 } := by
    rw [take_snocL hx, run_snoc, DScan.step, if_neg (fun h => absurd h.1 (by decide)), if_pos ⟨rfl, h.prt⟩]
  exact ⟨by rw [e], by rw [e]; exact h.lp, by rw [e]; exact h.lo, by rw [e]; exact h.ll, h.up, h.uo, h.ul⟩
theorem ainv_pa {R : List (List UInt8)} {k : Nat} {pa co cl : List Int} {x : List UInt8} (h : AInv R k 0 pa co cl) (hx : R[k]? = some x) (hn : x ≠ commW) : AInv R (k + 1) 0 (pa ++ [num08 x % 4294967296]) co cl := by
  have e : scan0.run (R.take (k + 1)) = { scan0.run (R.take k) with pw := (scan0.run (R.take k)).pw ++ [x] } := by
    rw [take_snocL hx, run_snoc, DScan.step, if_neg (fun h => hn h.1), if_neg (fun h' => by have := h.prt; omega), if_pos h.prt]
  exact ⟨by rw [e]; exact h.prt, by rw [e]; exact listRel_snoc h.lp (numRel_num08 x), by rw [e]; exact h.lo, by rw [e]; exact h.ll, u32s_snocA h.up (mod32 _), h.uo, h.ul⟩
theorem ainv_co {R : List (List UInt8)} {k : Nat} {pa co cl : List Int} {x : List UInt8} (h : AInv R k 1 pa co cl) (hx : R[k]? = some x) (hn : x ≠ clusW) : AInv R (k + 1) 1 pa (co ++ [num08 x % 4294967296]) cl := by
  have e : scan0.run (R.take (k + 1)) = { scan0.run (R.take k) with cw := (scan0.run (R.take k)).cw ++ [x] } := by
    rw [take_snocL hx, run_snoc, DScan.step, if_neg (fun h' => by have := h.prt; omega), if_neg (fun h => hn h.1), if_neg (by have := h.prt; omega), if_pos h.prt]
  exact ⟨by rw [e]; exact h.prt, by rw [e]; exact h.lp, by rw [e]; exact listRel_snoc h.lo (numRel_num08 x), by rw [e]; exact h.ll, h.up, u32s_snocA h.uo (mod32 _), h.ul⟩
theorem ainv_cl {R : List (List UInt8)} {k : Nat} {pa co cl : List Int} {x : List UInt8} (h : AInv R k 2 pa co cl) (hx : R[k]? = some x) : AInv R (k + 1) 2 pa co (cl ++ [adV (parseB x)]) := by
  have e : scan0.run (R.take (k + 1)) = { scan0.run (R.take k) with lw := (scan0.run (R.take k)).lw ++ [x] } := by
    rw [take_snocL hx, run_snoc, DScan.step, if_neg (fun h' => by have := h.prt; omega), if_neg (fun h' => by have := h.prt; omega), if_neg (by have := h.prt; omega), if_neg (by have := h.prt; omega)]
  exact ⟨by rw [e]; exact h.prt, by rw [e]; exact h.lp, by rw [e]; exact h.lo, by rw [e]; exact listRel_snoc h.ll (addrRel_adV x), h.up, h.uo, u32s_snocA h.ul (adV_lt x)⟩
theorem ainv_done {R : List (List UInt8)} {k part : Nat} {pa co cl : List Int} (h : AInv R k part pa co cl) (hk : R.length ≤ k) : ∀ r : AvV, r.ok = true → R = r.tail → pa = r.pa ∧ co = r.co ∧ cl = r.cl := by
  intro r _ hr
  have e : scan0.run (R.take k) = ⟨2, r.pa.map decT, r.co.map decT, r.cl.map addrT⟩ := by rw [List.take_of_length_le hk, hr, scan_tail]
  have h1 := h.lp
  have h2 := h.lo
  have h3 := h.ll
  rw [e] at h1 h2 h3
  exact ⟨listRel_dec h1 r.hpa, listRel_dec h2 r.hco, listRel_addr h3 r.hcl⟩
end Go.Proofs.YtpmoepipoafegaaGreatDoor

/-
  The advert that the document's ParseAdvert writes: its box and its three lists, one of them still growing. No walk.
-/
namespace Go.Proofs.YtpmoepipoafegaaGreatDoor
open Go Go.RowKit Go.Sort

def aqObj (a m ho pf me : Int) (vp vo : Value) (pe id : Int) (ex : Bool) (og : Int) (vl : Value) (ss : Int) : Obj := .cells #[.int .u32 a, .int .i64 m, .int .u32 ho, .int .i64 pf, .int .i64 me, vp, vo, .int .u32 pe, .int .u32 id, .bool ex, .int .u32 og, vl, .int .i64 ss] 31
theorem aq_blk {w : World} {g : Nat} {a m ho pf me : Int} {vp vo : Value} {pe id : Int} {ex : Bool} {og : Int} {vl : Value} {ss : Int} (h : w.heap[g]? = some (aqObj a m ho pf me vp vo pe id ex og vl ss)) : w.cell? ⟨g, 0, none⟩ = some (Value.int .u32 a) ∧ w.cell? ⟨g, 1, none⟩ = some (Value.int .i64 m) ∧ w.cell? ⟨g, 2, none⟩ = some (Value.int .u32 ho) ∧ w.cell? ⟨g, 3, none⟩ = some (Value.int .i64 pf) ∧ w.cell? ⟨g, 4, none⟩ = some (Value.int .i64 me) ∧ w.cell? ⟨g, 5, none⟩ = some vp ∧ w.cell? ⟨g, 6, none⟩ = some vo ∧ w.cell? ⟨g, 7, none⟩ = some (Value.int .u32 pe) ∧ w.cell? ⟨g, 8, none⟩ = some (Value.int .u32 id) ∧ w.cell? ⟨g, 9, none⟩ = some (Value.bool ex) ∧ w.cell? ⟨g, 10, none⟩ = some (Value.int .u32 og) ∧ w.cell? ⟨g, 11, none⟩ = some vl ∧ w.cell? ⟨g, 12, none⟩ = some (Value.int .i64 ss) := blk13 (t := 31) h
/-- A list that is done. -/
def FxL (w : World) (base g h : Nat) (l : List Int) (v : Value) : Prop := Rd w base 1 v l.length (l.map (Value.int .u32)) ∧ FarV g v ∧ FarV h v
theorem FxL.below {w w' : World} {base g h : Nat} {l : List Int} {v : Value} (H : FxL w base g h l v) (hb : Below base w w') : FxL w' base g h l v := ⟨H.1.below hb, H.2⟩
theorem FxL.setG {w : World} {base g h : Nat} {l : List Int} {v : Value} (H : FxL w base g h l v) (i : Nat) (u : Value) : FxL (w.setCell ⟨g, i, none⟩ u) base g h l v := ⟨H.1.setFar H.2.1, H.2⟩
theorem FxL.mono {w : World} {base base' g h : Nat} {l : List Int} {v : Value} (H : FxL w base g h l v) (hb : base ≤ base') : FxL w base' g h l v := ⟨H.1.mono hb, H.2⟩
theorem FxL.of_own {w : World} {base g h : Nat} {l : List Int} {v : Value} {e : TypeId} (H : w.ownsRow base e 1 v l.length (l.map (Value.int .u32))) (hg : g < base) (hh : h < base) : FxL w w.heap.size g h l v := ⟨Rd.of_own H, far_own H hg, far_own H hh⟩
/-- The three lists: those before the part are done, the part's own grows, those behind are empty. -/
def LInv (w : World) (g h : Nat) (part : Nat) (pa co cl : List Int) (vp vo vl : Value) : Prop :=
  ∃ base, g < base ∧ h < base ∧ base ≤ w.heap.size ∧
    ((part = 0 ∧ w.ownsRow base 22 1 vp pa.length (pa.map (Value.int .u32)) ∧ vo = .slice none 0 0 ∧ co = [] ∧ vl = .slice none 0 0 ∧ cl = []) ∨
     (part = 1 ∧ FxL w base g h pa vp ∧ w.ownsRow base 22 1 vo co.length (co.map (Value.int .u32)) ∧ vl = .slice none 0 0 ∧ cl = []) ∨
     (part = 2 ∧ FxL w base g h pa vp ∧ FxL w base g h co vo ∧ w.ownsRow base 23 1 vl cl.length (cl.map (Value.int .u32))))
theorem LInv.start {w : World} {g h : Nat} (hg : g < w.heap.size) (hh : h < w.heap.size) : LInv w g h 0 [] [] [] (.slice none 0 0) (.slice none 0 0) (.slice none 0 0) :=
  ⟨w.heap.size, hg, hh, Nat.le_refl _, Or.inl ⟨rfl, World.ownsRow_nil _ _ _ _, rfl, rfl, rfl, rfl⟩⟩
theorem LInv.below {w w' : World} {g h part : Nat} {pa co cl : List Int} {vp vo vl : Value} (H : LInv w g h part pa co cl vp vo vl) (hb : Below w.heap.size w w') : LInv w' g h part pa co cl vp vo vl := by
  obtain ⟨base, h1, h2, h3, H⟩ := H
  refine ⟨base, h1, h2, Nat.le_trans h3 hb.size, ?_⟩
  have hbb := hb.mono h3
  rcases H with ⟨p, o, r⟩ | ⟨p, f, o, r⟩ | ⟨p, f, f', o⟩
  · exact Or.inl ⟨p, owns_kept_none o (only_of_below hb none), r⟩
  · exact Or.inr (Or.inl ⟨p, f.below hbb, owns_kept_none o (only_of_below hb none), r⟩)
  · exact Or.inr (Or.inr ⟨p, f.below hbb, f'.below hbb, owns_kept_none o (only_of_below hb none)⟩)
theorem LInv.setG {w : World} {g h part : Nat} {pa co cl : List Int} {vp vo vl : Value} (H : LInv w g h part pa co cl vp vo vl) (i : Nat) (u : Value) : LInv (w.setCell ⟨g, i, none⟩ u) g h part pa co cl vp vo vl := by
  obtain ⟨base, h1, h2, h3, H⟩ := H
  refine ⟨base, h1, h2, by rw [size1c]; exact h3, ?_⟩
  rcases H with ⟨p, o, r⟩ | ⟨p, f, o, r⟩ | ⟨p, f, f', o⟩
  · exact Or.inl ⟨p, ownsRow_setCell_below o h1 u, r⟩
  · exact Or.inr (Or.inl ⟨p, f.setG i u, ownsRow_setCell_below o h1 u, r⟩)
  · exact Or.inr (Or.inr ⟨p, f.setG i u, f'.setG i u, ownsRow_setCell_below o h1 u⟩)
theorem LInv.next1 {w : World} {g h : Nat} {pa co cl : List Int} {vp vo vl : Value} (H : LInv w g h 0 pa co cl vp vo vl) : LInv w g h 1 pa co cl vp vo vl := by
  obtain ⟨base, h1, h2, h3, H⟩ := H
  refine ⟨w.heap.size, by omega, by omega, Nat.le_refl _, ?_⟩
  rcases H with ⟨p, o, rfl, rfl, r⟩ | ⟨p, _⟩ | ⟨p, _⟩
  · exact Or.inr (Or.inl ⟨rfl, FxL.of_own o h1 h2, World.ownsRow_nil _ _ _ _, r⟩)
  · cases p
  · cases p
theorem LInv.next2 {w : World} {g h : Nat} {pa co cl : List Int} {vp vo vl : Value} (H : LInv w g h 1 pa co cl vp vo vl) : LInv w g h 2 pa co cl vp vo vl := by
  obtain ⟨base, h1, h2, h3, H⟩ := H
  refine ⟨w.heap.size, by omega, by omega, Nat.le_refl _, ?_⟩
  rcases H with ⟨p, _⟩ | ⟨_, f, o, rfl, rfl⟩ | ⟨p, _⟩
  · cases p
  · exact Or.inr (Or.inr ⟨rfl, f.mono h3, FxL.of_own o h1 h2, World.ownsRow_nil _ _ _ _⟩)
  · cases p
theorem LInv.own0 {w : World} {g h : Nat} {pa co cl : List Int} {vp vo vl : Value} (H : LInv w g h 0 pa co cl vp vo vl) : ∃ base, g < base ∧ base ≤ w.heap.size ∧ w.ownsRow base 22 1 vp pa.length (pa.map (Value.int .u32)) ∧ (∀ (w' : World) (v' : Value) (x : Int), w'.ownsRow base 22 1 v' (pa.length + 1) (pa.map (Value.int .u32) ++ [Value.int .u32 x]) → Below base w w' → LInv w' g h 0 (pa ++ [x]) co cl v' vo vl) := by
  obtain ⟨base, h1, h2, h3, H⟩ := H
  rcases H with ⟨_, o, r⟩ | ⟨p, _⟩ | ⟨p, _⟩
  · exact ⟨base, h1, h3, o, fun w' v' x o' hb => ⟨base, h1, h2, Nat.le_trans h3 hb.size, Or.inl ⟨rfl, by rw [List.length_append, List.map_append]; exact o', r⟩⟩⟩
  · cases p
  · cases p
theorem LInv.own1 {w : World} {g h : Nat} {pa co cl : List Int} {vp vo vl : Value} (H : LInv w g h 1 pa co cl vp vo vl) : ∃ base, g < base ∧ base ≤ w.heap.size ∧ w.ownsRow base 22 1 vo co.length (co.map (Value.int .u32)) ∧ (∀ (w' : World) (v' : Value) (x : Int), w'.ownsRow base 22 1 v' (co.length + 1) (co.map (Value.int .u32) ++ [Value.int .u32 x]) → Below base w w' → LInv w' g h 1 pa (co ++ [x]) cl vp v' vl) := by
  obtain ⟨base, h1, h2, h3, H⟩ := H
  rcases H with ⟨p, _⟩ | ⟨_, f, o, r⟩ | ⟨p, _⟩
  · cases p
  · exact ⟨base, h1, h3, o, fun w' v' x o' hb => ⟨base, h1, h2, Nat.le_trans h3 hb.size, Or.inr (Or.inl ⟨rfl, f.below hb, by rw [List.length_append, List.map_append]; exact o', r⟩)⟩⟩
  · cases p
theorem LInv.own2 {w : World} {g h : Nat} {pa co cl : List Int} {vp vo vl : Value} (H : LInv w g h 2 pa co cl vp vo vl) : ∃ base, g < base ∧ base ≤ w.heap.size ∧ w.ownsRow base 23 1 vl cl.length (cl.map (Value.int .u32)) ∧ (∀ (w' : World) (v' : Value) (x : Int), w'.ownsRow base 23 1 v' (cl.length + 1) (cl.map (Value.int .u32) ++ [Value.int .u32 x]) → Below base w w' → LInv w' g h 2 pa co (cl ++ [x]) vp vo v') := by
  obtain ⟨base, h1, h2, h3, H⟩ := H
  rcases H with ⟨p, _⟩ | ⟨p, _⟩ | ⟨_, f, f', o⟩
  · cases p
  · cases p
  · exact ⟨base, h1, h3, o, fun w' v' x o' hb => ⟨base, h1, h2, Nat.le_trans h3 hb.size, Or.inr (Or.inr ⟨rfl, f.below hb, f'.below hb, by rw [List.length_append, List.map_append]; exact o'⟩)⟩⟩
theorem fx_nil (w : World) (B g h : Nat) : FxL w B g h [] (.slice none 0 0) := ⟨rdNilU w B, fun _ _ _ _ e => by (injection e with e _ _; cases e), fun _ _ _ _ e => by (injection e with e _ _; cases e)⟩
theorem LInv.done {w : World} {g h part : Nat} {pa co cl : List Int} {vp vo vl : Value} (H : LInv w g h part pa co cl vp vo vl) : TwL w pa vp g h ∧ TwL w co vo g h ∧ TwL w cl vl g h := by
  obtain ⟨base, h1, h2, h3, H⟩ := H
  rcases H with ⟨_, o, rfl, rfl, rfl, rfl⟩ | ⟨_, f, o, rfl, rfl⟩ | ⟨_, f, f', o⟩
  · exact ⟨FxL.of_own o h1 h2, fx_nil _ _ _ _, fx_nil _ _ _ _⟩
  · exact ⟨f.mono h3, FxL.of_own o h1 h2, fx_nil _ _ _ _⟩
  · exact ⟨f.mono h3, f'.mono h3, FxL.of_own o h1 h2⟩
theorem LInv.part_lt {w : World} {g h part : Nat} {pa co cl : List Int} {vp vo vl : Value} (H : LInv w g h part pa co cl vp vo vl) : part = 0 ∨ part = 1 ∨ part = 2 := by
  obtain ⟨_, _, _, _, H⟩ := H
  rcases H with ⟨p, _⟩ | ⟨p, _⟩ | ⟨p, _⟩ <;> omega
end Go.Proofs.YtpmoepipoafegaaGreatDoor

/-
  The document's ParseAdvert (written by wip/gen/genrd10.py).
-/
namespace Go.Proofs.YtpmoepipoafegaaGreatDoor
open Go Go.RowKit Go.Sort

theorem avRes_yes {l : List UInt8} {w w' : World} {e : Ending} {C : AvV} {vp vo vl : Value} (h : avV l = C ∧ avE l = 0) (he : e = .returned (.tuple #[.agg #[.int .u32 C.a, .int .i64 C.m, .int .u32 C.ho, .int .i64 C.pf, .int .i64 C.me, vp, vo, .int .u32 C.pe, .int .u32 C.id, .bool C.ex, .int .u32 C.og, vl, .int .i64 C.ss], .int .i64 0])) (hp : Rd w' w'.heap.size 1 vp C.pa.length (C.pa.map (Value.int .u32))) (ho : Rd w' w'.heap.size 1 vo C.co.length (C.co.map (Value.int .u32))) (hl : Rd w' w'.heap.size 1 vl C.cl.length (C.cl.map (Value.int .u32))) (hb : Below w.heap.size w w') : AvRes l w e w' := by
  unfold AvRes
  rw [h.1, h.2]
  exact ⟨vp, vo, vl, he, hp, ho, hl, hb⟩
theorem num08_64 (w : List UInt8) : -9223372036854775808 ≤ num08 w ∧ num08 w ≤ 9223372036854775807 := by have := num08_lt w; omega
theorem sess08_64 (w : List UInt8) : -9223372036854775808 ≤ sess08 w ∧ sess08 w ≤ 9223372036854775807 := by have := sess08_lt w; omega
set_option maxRecDepth 100000 in
set_option maxHeartbeats 8000000 in
theorem refAvParse_any (s : ByteArray) (w : World) (hlim : s.size < 4294967281) (hpc : (pieces 32 s.data.toList).length ≤ 5000) :
    Calls Tryz.prog 13 #[.string s] w fun e w' => AvRes s.data.toList w e w' := by
  have hk0 := heap_alloc_new w (avObj av0 (.slice none 0 0) (.slice none 0 0) (.slice none 0 0))
  have hb0 := below1 w (avObj av0 (.slice none 0 0) (.slice none 0 0) (.slice none 0 0))
  have HP := Lib.hid (parted_any s (w.alloc (avObj av0 (.slice none 0 0) (.slice none 0 0) (.slice none 0 0))) hlim)
  have hlim1 : s.data.toList.length < 4294967281 := by rw [show s.data.toList.length = s.size from Array.length_toList]; exact hlim
  go_enter Tryz.func13, Tryz.ntmps13
  go_wp2_with fail
  refine HP.out.mono ?_
  rintro e wr ⟨v, L, rfl, hown, hP, hb⟩
  have hk1 := blk_below hb hk0
  have hb1 := below_call hb0 hb
  have hrd := Rd.of_own hown
  rw [hP, List.length_map] at hpc
  clear hb hb0 hk0 HP hown
  obtain ⟨A, c, rfl, hc⟩ := hrd.form
  have hP := Lib.hid hP
  have hsz : ∀ x ∈ L, x.size < 4294967281 := by
    intro x hx
    have h1 : x.data.toList ∈ pieces 32 s.data.toList := by
      rw [hP.out]
      exact List.mem_map.2 ⟨x, hx, rfl⟩
    have h2 := pieces_len 32 _ _ h1
    have e2 : x.data.toList.length = x.size := Array.length_toList
    omega
  by_cases h19 : 19 ≤ L.length
  · obtain ⟨x0, x1, x2, x3, x4, x5, x6, x7, x8, x9, x10, x11, x12, x13, x14, x15, x16, R, rfl⟩ := seventeen (by omega : 17 ≤ L.length)
    obtain ⟨n, hn⟩ : ∃ n, (x0 :: x1 :: x2 :: x3 :: x4 :: x5 :: x6 :: x7 :: x8 :: x9 :: x10 :: x11 :: x12 :: x13 :: x14 :: x15 :: x16 :: R).length = n := ⟨_, rfl⟩
    rw [hn] at hrd hc hpc h19 ⊢
    have HNR := Lib.hid (show n = R.length + 17 by rw [← hn]; rfl)
    have l0 := hsz x0 (by simp)
    have l2 := hsz x2 (by simp)
    have l8 := hsz x8 (by simp)
    have l10 := hsz x10 (by simp)
    have l13 := hsz x13 (by simp)
    have HL := Lib.hid (fun x (hx : x ∈ R) => hsz x (by simp [hx]))
    obtain ⟨b, off, d, hv, _, _, hcell⟩ := hrd.pos (by omega)
    injection hv with hv1 _ hv3
    subst hv1 hv3
    have HC := Lib.hid (show ∀ (j : Nat) (x : ByteArray), (x0 :: x1 :: x2 :: x3 :: x4 :: x5 :: x6 :: x7 :: x8 :: x9 :: x10 :: x11 :: x12 :: x13 :: x14 :: x15 :: x16 :: R)[j]? = some x → wr.cell? ⟨b, off + j, none⟩ = some (.string x) from fun j x hx => hcell j _ (by rw [List.getElem?_map, hx]; rfl))
    have S0 := Lib.hid (show wr.cell? ⟨b, off, none⟩ = some (.string x0) from HC.out 0 x0 rfl)
    have S2 := Lib.hid (HC.out 2 x2 rfl)
    have S4 := Lib.hid (HC.out 4 x4 rfl)
    have S6 := Lib.hid (HC.out 6 x6 rfl)
    have S8 := Lib.hid (HC.out 8 x8 rfl)
    have S10 := Lib.hid (HC.out 10 x10 rfl)
    have S11 := Lib.hid (HC.out 11 x11 rfl)
    have S13 := Lib.hid (HC.out 13 x13 rfl)
    have S15 := Lib.hid (HC.out 15 x15 rfl)
    have HW := Lib.hid (show ∀ (j : Nat) (x : ByteArray), 17 ≤ j → R[j - 17]? = some x → wr.cell? ⟨b, off + j, none⟩ = some (.string x) from fun j x hj hx => HC.out j x (by obtain ⟨i, rfl⟩ := Nat.exists_eq_add_of_le' hj; simpa using hx))
    have hd : ¬ (n : Int) < 19 := by omega
    have i0x : (0 : Int) < (n : Int) := by omega
    have i2x : (2 : Int) < (n : Int) := by omega
    have i4x : (4 : Int) < (n : Int) := by omega
    have i6x : (6 : Int) < (n : Int) := by omega
    have i8x : (8 : Int) < (n : Int) := by omega
    have i10x : (10 : Int) < (n : Int) := by omega
    have i11x : (11 : Int) < (n : Int) := by omega
    have i13x : (13 : Int) < (n : Int) := by omega
    have i15x : (15 : Int) < (n : Int) := by omega
    have HPW := Lib.hid (show pieces 32 s.data.toList = x0.data.toList :: x1.data.toList :: x2.data.toList :: x3.data.toList :: x4.data.toList :: x5.data.toList :: x6.data.toList :: x7.data.toList :: x8.data.toList :: x9.data.toList :: x10.data.toList :: x11.data.toList :: x12.data.toList :: x13.data.toList :: x14.data.toList :: x15.data.toList :: x16.data.toList :: R.map (·.data.toList) from hP.out)
    have hex : (x11.toList == [101, 120, 116, 101, 114, 110, 97, 108]) = decide (x11.data.toList = extW) := by
      rw [list_of, Bool.eq_iff_iff]
      simp only [beq_iff_eq, decide_eq_true_eq]
      exact Iff.rfl
    have KN := Lib.hid (fun x W => refNumR_any x W)
    have sz0 : w.heap.size < wr.heap.size := lt_of_block hk1
    have HK1 := Lib.hid hk1
    clear hrd hcell HC hsz hn hc hk1 hP
    go_upto_region 4 with fail
    have s4 := S4.out
    have s6 := S6.out
    have s11 := S11.out
    have s15 := S15.out
    go_cut [5] (fun sr wx => ∃ g : Nat, sr = .pointer (some ⟨g, 0, none⟩) ∧ wr.heap.size ≤ g ∧ wx.heap[g]? = some (.cells #[.int .u32 0, .int .i64 0, .int .u32 0, .int .i64 (num08 x4.data.toList), .int .i64 (num08 x6.data.toList), .slice none 0 0, .slice none 0 0, .int .u32 0, .int .u32 0, .bool (decide (x11.data.toList = extW)), .int .u32 0, .slice none 0 0, .int .i64 (num08 x15.data.toList)] 31 (0, 0)) ∧ Below wr.heap.size wr wx)
    case first =>
      have F4 := cell_regrown s4
      have F6 := cell_regrown s6
      have F11 := cell_regrown s11
      have F15 := cell_regrown s15
      refine wp_region_tree (plains (.fork 3 (.fork 7 (.fork 15 (plains (.bar 17 (.bar 18 .done)) [16]) 17 (.bar 15 (plains (.bar 18 .done) [16]))) 17 (.bar 7 (.bar 15 (plains (.bar 18 .done) [16])))) 17 (.bar 3 (.bar 7 (.bar 15 (plains (.bar 18 .done) [16]))))) [0, 1, 2, 4, 5, 6, 8, 9, 10, 11, 12, 13, 14]) (by kernel_rfl) (by kernel_rfl) ?_
      have hv0 := below_drawn wr
      generalize { wr with drawn := wr.drawn + 1 } = V0 at *
      refine tree_take [0, 1, 2, 4, 5, 6, 8, 9, 10, 11, 12, 13, 14] [_, _, _, _, _, _, _, _, _, _, _, _, _] rfl rfl ?_
      simp only [List.getElem_toArray, List.getElem_cons_zero, List.getElem_cons_succ]
      repeat (go_big_quiet_step (fail))
      refine wpQuiet_nil ?_
      refine tree_fork ?_ ?_
      · refine step_same rfl (by rfl) ?_
        simp only [List.getElem_toArray, List.getElem_cons_zero, List.getElem_cons_succ]
        go_simp
        refine (KN.out x4 V0).mono ?_
        rintro e V1 ⟨rfl, hb1⟩
        have hv1 := below_call hv0 hb1
        refine ⟨regrown_of_below hv1, ?_⟩
        refine tree_fork ?_ ?_
        · refine step_same rfl (by rfl) ?_
          simp only [List.getElem_toArray, List.getElem_cons_zero, List.getElem_cons_succ]
          go_simp
          refine (KN.out x6 V1).mono ?_
          rintro e V2 ⟨rfl, hb2⟩
          have hv2 := below_call hv1 hb2
          refine ⟨regrown_of_below hv2, ?_⟩
          refine tree_fork ?_ ?_
          · refine step_same rfl (by rfl) ?_
            simp only [List.getElem_toArray, List.getElem_cons_zero, List.getElem_cons_succ]
            go_simp
            refine (KN.out x15 V2).mono ?_
            rintro e V3 ⟨rfl, hb3⟩
            have hv3 := below_call hv2 hb3
            refine ⟨regrown_of_below hv3, ?_⟩
            refine tree_take [16] [_] rfl rfl ?_
            simp only [List.getElem_toArray, List.getElem_cons_zero, List.getElem_cons_succ]
            repeat (go_big_quiet_step (fail))
            refine wpQuiet_nil ?_
            refine tree_bar ?_
            refine step_same rfl (by rfl) ?_
            simp only [List.getElem_toArray, List.getElem_cons_zero, List.getElem_cons_succ]
            go_simp
            have hA4 := heap_alloc_new V3 (.cells #[.int .u32 0, .int .i64 0, .int .u32 0, .int .i64 0, .int .i64 0, .slice none 0 0, .slice none 0 0, .int .u32 0, .int .u32 0, .bool false, .int .u32 0, .slice none 0 0, .int .i64 0] 31)
            have hb4 := below1 V3 (.cells #[.int .u32 0, .int .i64 0, .int .u32 0, .int .i64 0, .int .i64 0, .slice none 0 0, .slice none 0 0, .int .u32 0, .int .u32 0, .bool false, .int .u32 0, .slice none 0 0, .int .i64 0] 31)
            have hv4 := below_call hv3 hb4
            have hg4 : wr.heap.size ≤ V3.heap.size := hv3.size
            refine ⟨regrown_of_below hv4, ?_⟩
            generalize V3.alloc (.cells #[.int .u32 0, .int .i64 0, .int .u32 0, .int .i64 0, .int .i64 0, .slice none 0 0, .slice none 0 0, .int .u32 0, .int .u32 0, .bool false, .int .u32 0, .slice none 0 0, .int .i64 0] 31) = V4 at *
            generalize V3.heap.size = gA at *
            obtain ⟨n0, n1, n2, n3, n4, n5, n6, n7, n8, n9, n10, n11, n12⟩ := blk13 hA4
            have m0 := frozen_row hA4 0
            have m1 := frozen_row hA4 1
            have m2 := frozen_row hA4 2
            have m3 := frozen_row hA4 3
            have m4 := frozen_row hA4 4
            have m5 := frozen_row hA4 5
            have m6 := frozen_row hA4 6
            have m7 := frozen_row hA4 7
            have m8 := frozen_row hA4 8
            have m9 := frozen_row hA4 9
            have m10 := frozen_row hA4 10
            have m11 := frozen_row hA4 11
            have m12 := frozen_row hA4 12
            refine tree_bar ?_
            refine step_same rfl (by rfl) ?_
            simp only [List.getElem_toArray, List.getElem_cons_zero, List.getElem_cons_succ]
            go_simp
            refine ⟨regrown_of_below (st13 hv4 hg4), ?_⟩
            refine tree_end ?_
            go_wp2_with fail
            go_meet
            exact fin13 hv4 hA4 hg4
          · refine step_same rfl (by rfl) ?_
            simp only [List.getElem_toArray, List.getElem_cons_zero, List.getElem_cons_succ]
            go_simp
            have hA5 := heap_alloc_new V2 (.cells #[.int .u32 0, .int .i64 0, .int .u32 0, .int .i64 0, .int .i64 0, .slice none 0 0, .slice none 0 0, .int .u32 0, .int .u32 0, .bool false, .int .u32 0, .slice none 0 0, .int .i64 0] 31)
            have hb5 := below1 V2 (.cells #[.int .u32 0, .int .i64 0, .int .u32 0, .int .i64 0, .int .i64 0, .slice none 0 0, .slice none 0 0, .int .u32 0, .int .u32 0, .bool false, .int .u32 0, .slice none 0 0, .int .i64 0] 31)
            have hv5 := below_call hv2 hb5
            have hg5 : wr.heap.size ≤ V2.heap.size := hv2.size
            refine ⟨regrown_of_below hv5, ?_⟩
            generalize V2.alloc (.cells #[.int .u32 0, .int .i64 0, .int .u32 0, .int .i64 0, .int .i64 0, .slice none 0 0, .slice none 0 0, .int .u32 0, .int .u32 0, .bool false, .int .u32 0, .slice none 0 0, .int .i64 0] 31) = V5 at *
            generalize V2.heap.size = gA at *
            refine tree_bar ?_
            refine step_same rfl (by rfl) ?_
            simp only [List.getElem_toArray, List.getElem_cons_zero, List.getElem_cons_succ]
            go_simp
            refine (KN.out x15 V5).mono ?_
            rintro e V6 ⟨rfl, hb6⟩
            have hv6 := below_call hv5 hb6
            have hA6 := blk_below hb6 hA5
            refine ⟨regrown_of_below hv6, ?_⟩
            refine tree_take [16] [_] rfl rfl ?_
            simp only [List.getElem_toArray, List.getElem_cons_zero, List.getElem_cons_succ]
            repeat (go_big_quiet_step (fail))
            refine wpQuiet_nil ?_
            obtain ⟨n0, n1, n2, n3, n4, n5, n6, n7, n8, n9, n10, n11, n12⟩ := blk13 hA6
            have m0 := frozen_row hA6 0
            have m1 := frozen_row hA6 1
            have m2 := frozen_row hA6 2
            have m3 := frozen_row hA6 3
            have m4 := frozen_row hA6 4
            have m5 := frozen_row hA6 5
            have m6 := frozen_row hA6 6
            have m7 := frozen_row hA6 7
            have m8 := frozen_row hA6 8
            have m9 := frozen_row hA6 9
            have m10 := frozen_row hA6 10
            have m11 := frozen_row hA6 11
            have m12 := frozen_row hA6 12
            refine tree_bar ?_
            refine step_same rfl (by rfl) ?_
            simp only [List.getElem_toArray, List.getElem_cons_zero, List.getElem_cons_succ]
            go_simp
            refine ⟨regrown_of_below (st13 hv6 hg5), ?_⟩
            refine tree_end ?_
            go_wp2_with fail
            go_meet
            exact fin13 hv6 hA6 hg5
        · refine step_same rfl (by rfl) ?_
          simp only [List.getElem_toArray, List.getElem_cons_zero, List.getElem_cons_succ]
          go_simp
          have hA7 := heap_alloc_new V1 (.cells #[.int .u32 0, .int .i64 0, .int .u32 0, .int .i64 0, .int .i64 0, .slice none 0 0, .slice none 0 0, .int .u32 0, .int .u32 0, .bool false, .int .u32 0, .slice none 0 0, .int .i64 0] 31)
          have hb7 := below1 V1 (.cells #[.int .u32 0, .int .i64 0, .int .u32 0, .int .i64 0, .int .i64 0, .slice none 0 0, .slice none 0 0, .int .u32 0, .int .u32 0, .bool false, .int .u32 0, .slice none 0 0, .int .i64 0] 31)
          have hv7 := below_call hv1 hb7
          have hg7 : wr.heap.size ≤ V1.heap.size := hv1.size
          refine ⟨regrown_of_below hv7, ?_⟩
          generalize V1.alloc (.cells #[.int .u32 0, .int .i64 0, .int .u32 0, .int .i64 0, .int .i64 0, .slice none 0 0, .slice none 0 0, .int .u32 0, .int .u32 0, .bool false, .int .u32 0, .slice none 0 0, .int .i64 0] 31) = V7 at *
          generalize V1.heap.size = gA at *
          refine tree_bar ?_
          refine step_same rfl (by rfl) ?_
          simp only [List.getElem_toArray, List.getElem_cons_zero, List.getElem_cons_succ]
          go_simp
          refine (KN.out x6 V7).mono ?_
          rintro e V8 ⟨rfl, hb8⟩
          have hv8 := below_call hv7 hb8
          have hA8 := blk_below hb8 hA7
          refine ⟨regrown_of_below hv8, ?_⟩
          refine tree_bar ?_
          refine step_same rfl (by rfl) ?_
          simp only [List.getElem_toArray, List.getElem_cons_zero, List.getElem_cons_succ]
          go_simp
          refine (KN.out x15 V8).mono ?_
          rintro e V9 ⟨rfl, hb9⟩
          have hv9 := below_call hv8 hb9
          have hA9 := blk_below hb9 hA8
          refine ⟨regrown_of_below hv9, ?_⟩
          refine tree_take [16] [_] rfl rfl ?_
          simp only [List.getElem_toArray, List.getElem_cons_zero, List.getElem_cons_succ]
          repeat (go_big_quiet_step (fail))
          refine wpQuiet_nil ?_
          obtain ⟨n0, n1, n2, n3, n4, n5, n6, n7, n8, n9, n10, n11, n12⟩ := blk13 hA9
          have m0 := frozen_row hA9 0
          have m1 := frozen_row hA9 1
          have m2 := frozen_row hA9 2
          have m3 := frozen_row hA9 3
          have m4 := frozen_row hA9 4
          have m5 := frozen_row hA9 5
          have m6 := frozen_row hA9 6
          have m7 := frozen_row hA9 7
          have m8 := frozen_row hA9 8
          have m9 := frozen_row hA9 9
          have m10 := frozen_row hA9 10
          have m11 := frozen_row hA9 11
          have m12 := frozen_row hA9 12
          refine tree_bar ?_
          refine step_same rfl (by rfl) ?_
          simp only [List.getElem_toArray, List.getElem_cons_zero, List.getElem_cons_succ]
          go_simp
          refine ⟨regrown_of_below (st13 hv9 hg7), ?_⟩
          refine tree_end ?_
          go_wp2_with fail
          go_meet
          exact fin13 hv9 hA9 hg7
      · refine step_same rfl (by rfl) ?_
        simp only [List.getElem_toArray, List.getElem_cons_zero, List.getElem_cons_succ]
        go_simp
        have hA10 := heap_alloc_new V0 (.cells #[.int .u32 0, .int .i64 0, .int .u32 0, .int .i64 0, .int .i64 0, .slice none 0 0, .slice none 0 0, .int .u32 0, .int .u32 0, .bool false, .int .u32 0, .slice none 0 0, .int .i64 0] 31)
        have hb10 := below1 V0 (.cells #[.int .u32 0, .int .i64 0, .int .u32 0, .int .i64 0, .int .i64 0, .slice none 0 0, .slice none 0 0, .int .u32 0, .int .u32 0, .bool false, .int .u32 0, .slice none 0 0, .int .i64 0] 31)
        have hv10 := below_call hv0 hb10
        have hg10 : wr.heap.size ≤ V0.heap.size := hv0.size
        refine ⟨regrown_of_below hv10, ?_⟩
        generalize V0.alloc (.cells #[.int .u32 0, .int .i64 0, .int .u32 0, .int .i64 0, .int .i64 0, .slice none 0 0, .slice none 0 0, .int .u32 0, .int .u32 0, .bool false, .int .u32 0, .slice none 0 0, .int .i64 0] 31) = V10 at *
        generalize V0.heap.size = gA at *
        refine tree_bar ?_
        refine step_same rfl (by rfl) ?_
        simp only [List.getElem_toArray, List.getElem_cons_zero, List.getElem_cons_succ]
        go_simp
        refine (KN.out x4 V10).mono ?_
        rintro e V11 ⟨rfl, hb11⟩
        have hv11 := below_call hv10 hb11
        have hA11 := blk_below hb11 hA10
        refine ⟨regrown_of_below hv11, ?_⟩
        refine tree_bar ?_
        refine step_same rfl (by rfl) ?_
        simp only [List.getElem_toArray, List.getElem_cons_zero, List.getElem_cons_succ]
        go_simp
        refine (KN.out x6 V11).mono ?_
        rintro e V12 ⟨rfl, hb12⟩
        have hv12 := below_call hv11 hb12
        have hA12 := blk_below hb12 hA11
        refine ⟨regrown_of_below hv12, ?_⟩
        refine tree_bar ?_
        refine step_same rfl (by rfl) ?_
        simp only [List.getElem_toArray, List.getElem_cons_zero, List.getElem_cons_succ]
        go_simp
        refine (KN.out x15 V12).mono ?_
        rintro e V13 ⟨rfl, hb13⟩
        have hv13 := below_call hv12 hb13
        have hA13 := blk_below hb13 hA12
        refine ⟨regrown_of_below hv13, ?_⟩
        refine tree_take [16] [_] rfl rfl ?_
        simp only [List.getElem_toArray, List.getElem_cons_zero, List.getElem_cons_succ]
        repeat (go_big_quiet_step (fail))
        refine wpQuiet_nil ?_
        obtain ⟨n0, n1, n2, n3, n4, n5, n6, n7, n8, n9, n10, n11, n12⟩ := blk13 hA13
        have m0 := frozen_row hA13 0
        have m1 := frozen_row hA13 1
        have m2 := frozen_row hA13 2
        have m3 := frozen_row hA13 3
        have m4 := frozen_row hA13 4
        have m5 := frozen_row hA13 5
        have m6 := frozen_row hA13 6
        have m7 := frozen_row hA13 7
        have m8 := frozen_row hA13 8
        have m9 := frozen_row hA13 9
        have m10 := frozen_row hA13 10
        have m11 := frozen_row hA13 11
        have m12 := frozen_row hA13 12
        refine tree_bar ?_
        refine step_same rfl (by rfl) ?_
        simp only [List.getElem_toArray, List.getElem_cons_zero, List.getElem_cons_succ]
        go_simp
        refine ⟨regrown_of_below (st13 hv13 hg10), ?_⟩
        refine tree_end ?_
        go_wp2_with fail
        go_meet
        exact fin13 hv13 hA13 hg10

    case rest =>
      obtain ⟨g, hs5, hgW, hkr, hb2⟩ := hcut
      subst hs5
      rename World => W0
      have hk2 : W0.heap[g]? = some (aqObj 0 0 0 (num08 x4.data.toList) (num08 x6.data.toList) (.slice none 0 0) (.slice none 0 0) 0 0 (decide (x11.data.toList = extW)) 0 (.slice none 0 0) (num08 x15.data.toList)) := hkr
      clear s4 s6 s11 s15 hex hkr S4 S6 S11
      have t := cell_kept hb2 S0.out
      have K := Lib.hid (refParsePrefix_any x0 W0 l0)
      go_wp2_with fail
      refine K.out.mono ?_
      rintro e u0 ⟨rfl, hbc⟩
      have hk' := blk_below hbc hk2
      have hb' := hb2.trans (hbc.mono hb2.size)
      clear hbc hk2 hb2 t K
      obtain ⟨c0, c1, c2, c3, c4, c5, c6, c7, c8, c9, c10, c11, c12⟩ := aq_blk hk'
      have z0 := frozen_row hk' 0
      have z1 := frozen_row hk' 1
      go_upto_region 6 with fail
      have hk3 : ((u0.setCell ⟨g, 0, none⟩ (.int .u32 (ppA x0.data.toList))).setCell ⟨g, 1, none⟩ (.int .i64 (ppN x0.data.toList))).heap[g]? = some (aqObj (ppA x0.data.toList) (ppN x0.data.toList) 0 (num08 x4.data.toList) (num08 x6.data.toList) (.slice none 0 0) (.slice none 0 0) 0 0 (decide (x11.data.toList = extW)) 0 (.slice none 0 0) (num08 x15.data.toList)) := (aset1 (u := .int .i64 (ppN x0.data.toList)) (aset0 (u := .int .u32 (ppA x0.data.toList)) hk'))
      have hb3 := ((hb'.setCell (p := ⟨g, 0, none⟩) hgW (.int .u32 (ppA x0.data.toList))).setCell (p := ⟨g, 1, none⟩) hgW (.int .i64 (ppN x0.data.toList)))
      clear c0 c1 c2 c3 c4 c5 c6 c7 c8 c9 c10 c11 c12 z0 z1 hk' hb'
      generalize ((u0.setCell ⟨g, 0, none⟩ (.int .u32 (ppA x0.data.toList))).setCell ⟨g, 1, none⟩ (.int .i64 (ppN x0.data.toList))) = W1 at *
      have t := cell_kept hb3 S2.out
      have K := Lib.hid (refParse_any x2 W1 l2)
      go_wp2_with fail
      refine K.out.mono ?_
      rintro e u1 ⟨rfl, hbc⟩
      have hk' := blk_below hbc hk3
      have hb' := hb3.trans (hbc.mono hb3.size)
      clear hbc hk3 hb3 t K
      obtain ⟨c0, c1, c2, c3, c4, c5, c6, c7, c8, c9, c10, c11, c12⟩ := aq_blk hk'
      have z2 := frozen_row hk' 2
      go_upto_region 7 with fail
      have hk4 : (u1.setCell ⟨g, 2, none⟩ (.int .u32 (adV (parseB x2.data.toList)))).heap[g]? = some (aqObj (ppA x0.data.toList) (ppN x0.data.toList) (adV (parseB x2.data.toList)) (num08 x4.data.toList) (num08 x6.data.toList) (.slice none 0 0) (.slice none 0 0) 0 0 (decide (x11.data.toList = extW)) 0 (.slice none 0 0) (num08 x15.data.toList)) := (aset2 (u := .int .u32 (adV (parseB x2.data.toList))) hk')
      have hb4 := (hb'.setCell (p := ⟨g, 2, none⟩) hgW (.int .u32 (adV (parseB x2.data.toList))))
      clear c0 c1 c2 c3 c4 c5 c6 c7 c8 c9 c10 c11 c12 z2 hk' hb'
      generalize (u1.setCell ⟨g, 2, none⟩ (.int .u32 (adV (parseB x2.data.toList)))) = W2 at *
      have t := cell_kept hb4 S8.out
      have K := Lib.hid (refParse_any x8 W2 l8)
      go_wp2_with fail
      refine K.out.mono ?_
      rintro e u2 ⟨rfl, hbc⟩
      have hk' := blk_below hbc hk4
      have hb' := hb4.trans (hbc.mono hb4.size)
      clear hbc hk4 hb4 t K
      obtain ⟨c0, c1, c2, c3, c4, c5, c6, c7, c8, c9, c10, c11, c12⟩ := aq_blk hk'
      have z7 := frozen_row hk' 7
      go_upto_region 8 with fail
      have hk5 : (u2.setCell ⟨g, 7, none⟩ (.int .u32 (adV (parseB x8.data.toList)))).heap[g]? = some (aqObj (ppA x0.data.toList) (ppN x0.data.toList) (adV (parseB x2.data.toList)) (num08 x4.data.toList) (num08 x6.data.toList) (.slice none 0 0) (.slice none 0 0) (adV (parseB x8.data.toList)) 0 (decide (x11.data.toList = extW)) 0 (.slice none 0 0) (num08 x15.data.toList)) := (aset7 (u := .int .u32 (adV (parseB x8.data.toList))) hk')
      have hb5 := (hb'.setCell (p := ⟨g, 7, none⟩) hgW (.int .u32 (adV (parseB x8.data.toList))))
      clear c0 c1 c2 c3 c4 c5 c6 c7 c8 c9 c10 c11 c12 z7 hk' hb'
      generalize (u2.setCell ⟨g, 7, none⟩ (.int .u32 (adV (parseB x8.data.toList)))) = W3 at *
      have t := cell_kept hb5 S10.out
      have K := Lib.hid (refParse_any x10 W3 l10)
      go_wp2_with fail
      refine K.out.mono ?_
      rintro e u3 ⟨rfl, hbc⟩
      have hk' := blk_below hbc hk5
      have hb' := hb5.trans (hbc.mono hb5.size)
      clear hbc hk5 hb5 t K
      obtain ⟨c0, c1, c2, c3, c4, c5, c6, c7, c8, c9, c10, c11, c12⟩ := aq_blk hk'
      have z8 := frozen_row hk' 8
      go_upto_region 9 with fail
      have hk6 : (u3.setCell ⟨g, 8, none⟩ (.int .u32 (adV (parseB x10.data.toList)))).heap[g]? = some (aqObj (ppA x0.data.toList) (ppN x0.data.toList) (adV (parseB x2.data.toList)) (num08 x4.data.toList) (num08 x6.data.toList) (.slice none 0 0) (.slice none 0 0) (adV (parseB x8.data.toList)) (adV (parseB x10.data.toList)) (decide (x11.data.toList = extW)) 0 (.slice none 0 0) (num08 x15.data.toList)) := (aset8 (u := .int .u32 (adV (parseB x10.data.toList))) hk')
      have hb6 := (hb'.setCell (p := ⟨g, 8, none⟩) hgW (.int .u32 (adV (parseB x10.data.toList))))
      clear c0 c1 c2 c3 c4 c5 c6 c7 c8 c9 c10 c11 c12 z8 hk' hb'
      generalize (u3.setCell ⟨g, 8, none⟩ (.int .u32 (adV (parseB x10.data.toList)))) = W4 at *
      have t := cell_kept hb6 S13.out
      have K := Lib.hid (refParse_any x13 W4 l13)
      go_wp2_with fail
      refine K.out.mono ?_
      rintro e u4 ⟨rfl, hbc⟩
      have hk' := blk_below hbc hk6
      have hb' := hb6.trans (hbc.mono hb6.size)
      clear hbc hk6 hb6 t K
      obtain ⟨c0, c1, c2, c3, c4, c5, c6, c7, c8, c9, c10, c11, c12⟩ := aq_blk hk'
      have z10 := frozen_row hk' 10
      go_upto_region 10 with fail
      have hk7 : (u4.setCell ⟨g, 10, none⟩ (.int .u32 (adV (parseB x13.data.toList)))).heap[g]? = some (aqObj (ppA x0.data.toList) (ppN x0.data.toList) (adV (parseB x2.data.toList)) (num08 x4.data.toList) (num08 x6.data.toList) (.slice none 0 0) (.slice none 0 0) (adV (parseB x8.data.toList)) (adV (parseB x10.data.toList)) (decide (x11.data.toList = extW)) (adV (parseB x13.data.toList)) (.slice none 0 0) (num08 x15.data.toList)) := (aset10 (u := .int .u32 (adV (parseB x13.data.toList))) hk')
      have hb7 := (hb'.setCell (p := ⟨g, 10, none⟩) hgW (.int .u32 (adV (parseB x13.data.toList))))
      clear c0 c1 c2 c3 c4 c5 c6 c7 c8 c9 c10 c11 c12 z10 hk' hb'
      generalize (u4.setCell ⟨g, 10, none⟩ (.int .u32 (adV (parseB x13.data.toList)))) = W5 at *
      have t15 := cell_kept hb7 S15.out
      obtain ⟨c0, c1, c2, c3, c4, c5, c6, c7, c8, c9, c10, c11, c12⟩ := aq_blk hk7
      have z12 := frozen_row hk7 12
      go_upto_if 79 with fail
      go_cut [] (fun wx => Hid (wx.heap[g]? = some (aqObj (ppA x0.data.toList) (ppN x0.data.toList) (adV (parseB x2.data.toList)) (num08 x4.data.toList) (num08 x6.data.toList) (.slice none 0 0) (.slice none 0 0) (adV (parseB x8.data.toList)) (adV (parseB x10.data.toList)) (decide (x11.data.toList = extW)) (adV (parseB x13.data.toList)) (.slice none 0 0) (sess08 x15.data.toList)) ∧ Below wr.heap.size wr wx))
      case first =>
        by_cases q : x15.data.toList = oneW
        · have hone : (x15.toList == [45, 49]) = true := by rw [list_of, q]; rfl
          have hs := Lib.hid (show (sess08 x15.data.toList) = -1 from if_pos q)
          clear q
          try simp only [hone]
          go_wp2_with fail
          go_meet
          exact Lib.hid ⟨by rw [hs.out]; exact aset12 hk7, hb7.setCell (p := ⟨g, 12, none⟩) hgW _⟩
        · have hone : (x15.toList == [45, 49]) = false := by rw [list_of]; simpa [oneW] using q
          have hs := Lib.hid (show (sess08 x15.data.toList) = num08 x15.data.toList from if_neg q)
          clear q
          try simp only [hone]
          go_wp2_with fail
          go_meet
          exact Lib.hid ⟨by rw [hs.out]; exact hk7, hb7⟩
      case rest =>
        rename World => W6
        have HB6 := hcut
        clear hcut t15 c0 c1 c2 c3 c4 c5 c6 c7 c8 c9 c10 c11 c12 z12 hk7 hb7 S0 S2 S8 S10 S13 S15
        have hg0 : w.heap.size < g := Nat.lt_of_lt_of_le sz0 hgW
        have HLI := Lib.hid (LInv.start (w := W6) (g := g) (h := w.heap.size) (lt_of_block HB6.out.1) (Nat.lt_trans hg0 (lt_of_block HB6.out.1)))
        obtain ⟨i0, hi, hz0, hz1, hz2⟩ := info_parts Tryz.infoU32
        obtain ⟨j0, hj, hy0, hy1, hy2⟩ := info_parts Tryz.infoAddr
        go_wp2_with fail
        go_loopw [6, 7, 8, 9, 10] (fun p i _ _ _ wx => ∃ (j part : Nat) (pa co cl : List Int) (vp vo vl : Value), p = .int .i64 part ∧ i = .int .i64 j ∧ 17 ≤ j ∧ j ≤ n ∧ pa.length + co.length + cl.length ≤ j - 17 ∧ Hid (AInv (R.map (·.data.toList)) (j - 17) part pa co cl) ∧ Hid (wx.heap[g]? = some (aqObj (ppA x0.data.toList) (ppN x0.data.toList) (adV (parseB x2.data.toList)) (num08 x4.data.toList) (num08 x6.data.toList) vp vo (adV (parseB x8.data.toList)) (adV (parseB x10.data.toList)) (decide (x11.data.toList = extW)) (adV (parseB x13.data.toList)) vl (sess08 x15.data.toList)) ∧ Below wr.heap.size wr wx ∧ LInv wx g w.heap.size part pa co cl vp vo vl)) (fun _ i _ _ _ _ => n - (intOf i).toNat)
        case atStart => exact ⟨17, 0, [], [], [], (.slice none 0 0), (.slice none 0 0), (.slice none 0 0), rfl, rfl, by omega, by omega, by simp, Lib.hid (ainv_start _), Lib.hid ⟨HB6.out.1, HB6.out.2, HLI.out⟩⟩
        case round =>
          obtain ⟨j, part, pa, co, cl, vp, vo, vl, rfl, rfl, hj17, hjn, hsum, HA, HB⟩ := hrel
          rename World => wx
          clear HLI HB6
          have hkx := HB.out.1
          have hbx := HB.out.2.1
          have LI := Lib.hid HB.out.2.2
          obtain ⟨c0, c1, c2, c3, c4, c5, c6, c7, c8, c9, c10, c11, c12⟩ := aq_blk hkx
          by_cases hlt : j < n
          · have hI : (j : Int) < (n : Int) := by omega
            have hjR : j - 17 < R.length := by have := HNR.out; omega
            obtain ⟨x, hx⟩ : ∃ x, R[j - 17]? = some x := ⟨_, List.getElem?_eq_getElem hjR⟩
            have e0 := cell_kept hbx (HW.out j x hj17 hx)
            have lx := HL.out x (List.mem_of_getElem? hx)
            have HX := Lib.hid (show (R.map (·.data.toList))[j - 17]? = some x.data.toList by rw [List.getElem?_map, hx]; rfl)
            have cw : (x.toList == [99, 111, 109, 109]) = decide (x.data.toList = commW) := by rw [list_of, Bool.eq_iff_iff]; simp only [beq_iff_eq, decide_eq_true_eq]; exact Iff.rfl
            have lw : (x.toList == [99, 108, 117, 115, 116, 101, 114, 115]) = decide (x.data.toList = clusW) := by rw [list_of, Bool.eq_iff_iff]; simp only [beq_iff_eq, decide_eq_true_eq]; exact Iff.rfl
            have hjj : j - 17 + 1 = j + 1 - 17 := by omega
            clear hx hjR HB
            rcases LI.out.part_lt with rfl | rfl | rfl
            · have pe0 : (((0 : Nat) : Int) == 0) = true := rfl
              have pe1 : (((0 : Nat) : Int) == 1) = false := rfl
              have pe2 : (((0 : Nat) : Int) == 2) = false := rfl
              by_cases hx1 : x.data.toList = commW
              · have bw : (x.toList == [99, 111, 109, 109]) = true := by rw [cw]; simpa using hx1
                have HA2 := Lib.hid (ainv_comm HA.out (by have := HX.out; rw [hx1] at this; exact this))
                rw [hjj] at HA2
                have LI2 := Lib.hid (LI.out.next1)
                clear hx1 cw lw HA HX
                generalize hbo : (x.toList == [99, 108, 117, 115, 116, 101, 114, 115]) = bo
                cases bo
                all_goals (
                  go_wp2_with fail
                  exact ⟨⟨j + 1, 1, pa, co, cl, vp, vo, vl, by go_num, by go_num, by omega, by omega, by omega, HA2, Lib.hid ⟨hkx, hbx, LI2.out⟩⟩, by simp only [intOf]; omega⟩)
              · have bw : (x.toList == [99, 111, 109, 109]) = false := by rw [cw]; simpa using hx1
                have HA2 := Lib.hid (ainv_pa HA.out HX.out hx1)
                rw [hjj] at HA2
                clear hx1 cw lw HA HX
                generalize hbo : (x.toList == [99, 108, 117, 115, 116, 101, 114, 115]) = bo
                cases bo
                all_goals (
                  go_wp2_with fail
                  refine (KN.out x _).mono ?_
                  rintro e wz ⟨rfl, hbc⟩
                  have hkz := blk_below hbc hkx
                  have hbz := hbx.trans (hbc.mono hbx.size)
                  have LIz := LI.out.below hbc
                  clear hbx hkx LI e0 c0 c1 c2 c3 c4 c5 c6 c7 c8 c9 c10 c11 c12
                  obtain ⟨c0, c1, c2, c3, c4, c5, c6, c7, c8, c9, c10, c11, c12⟩ := aq_blk hkz
                  obtain ⟨base, hgb, hB, hown, hnext⟩ := LIz.own0
                  have HNX := Lib.hid hnext
                  clear hnext LIz
                  go_wp2_with (at_builtin; refine wpList_push rfl _ _ 28 rfl 22 i0 _ 1 4 Tryz.underlying28 hi hz0 hz1 hz2 rfl (by decide) (by decide) [.int .u32 (num08 x.data.toList % 4294967296)] rfl rfl (by simp) hown rfl (one_u32 _) (by omega) hB (Below.refl base wz) (Nat.le_refl _) ?_; intro v2 w2 hown2 hb2; obtain ⟨B2, D2, hv2, _⟩ := owns_form hown2; subst hv2; have hk3 := (hb2.block g hgb).trans hkz; have hb3 := hbz.trans (hb2.mono (by omega : wr.heap.size ≤ base)); have LI3 := Lib.hid ((HNX.out w2 (.slice B2 (pa.length + 1) D2) (num08 x.data.toList % 4294967296) hown2 hb2).setG 5 (.slice B2 (pa.length + 1) D2)); clear hown hown2 hb2 HNX hkz hbz c0 c1 c2 c3 c4 c5 c6 c7 c8 c9 c10 c11 c12; obtain ⟨c0, c1, c2, c3, c4, c5, c6, c7, c8, c9, c10, c11, c12⟩ := aq_blk hk3; have zz := frozen_row hk3 5)
                  exact ⟨⟨j + 1, 0, pa ++ [(num08 x.data.toList % 4294967296)], co, cl, (.slice B2 (pa.length + 1) D2), vo, vl, rfl, by go_num, by omega, by omega, by simp only [List.length_append, List.length_cons, List.length_nil]; omega, HA2, Lib.hid ⟨aset5 hk3, hb3.setCell (p := ⟨g, 5, none⟩) hgW _, LI3.out⟩⟩, by simp only [intOf]; omega⟩)
            · have pe0 : (((1 : Nat) : Int) == 0) = false := rfl
              have pe1 : (((1 : Nat) : Int) == 1) = true := rfl
              have pe2 : (((1 : Nat) : Int) == 2) = false := rfl
              by_cases hx1 : x.data.toList = clusW
              · have bw : (x.toList == [99, 108, 117, 115, 116, 101, 114, 115]) = true := by rw [lw]; simpa using hx1
                have HA2 := Lib.hid (ainv_clus HA.out (by have := HX.out; rw [hx1] at this; exact this))
                rw [hjj] at HA2
                have LI2 := Lib.hid (LI.out.next2)
                clear hx1 cw lw HA HX
                generalize hbo : (x.toList == [99, 111, 109, 109]) = bo
                cases bo
                all_goals (
                  go_wp2_with fail
                  exact ⟨⟨j + 1, 2, pa, co, cl, vp, vo, vl, by go_num, by go_num, by omega, by omega, by omega, HA2, Lib.hid ⟨hkx, hbx, LI2.out⟩⟩, by simp only [intOf]; omega⟩)
              · have bw : (x.toList == [99, 108, 117, 115, 116, 101, 114, 115]) = false := by rw [lw]; simpa using hx1
                have HA2 := Lib.hid (ainv_co HA.out HX.out hx1)
                rw [hjj] at HA2
                clear hx1 cw lw HA HX
                generalize hbo : (x.toList == [99, 111, 109, 109]) = bo
                cases bo
                all_goals (
                  go_wp2_with fail
                  refine (KN.out x _).mono ?_
                  rintro e wz ⟨rfl, hbc⟩
                  have hkz := blk_below hbc hkx
                  have hbz := hbx.trans (hbc.mono hbx.size)
                  have LIz := LI.out.below hbc
                  clear hbx hkx LI e0 c0 c1 c2 c3 c4 c5 c6 c7 c8 c9 c10 c11 c12
                  obtain ⟨c0, c1, c2, c3, c4, c5, c6, c7, c8, c9, c10, c11, c12⟩ := aq_blk hkz
                  obtain ⟨base, hgb, hB, hown, hnext⟩ := LIz.own1
                  have HNX := Lib.hid hnext
                  clear hnext LIz
                  go_wp2_with (at_builtin; refine wpList_push rfl _ _ 28 rfl 22 i0 _ 1 4 Tryz.underlying28 hi hz0 hz1 hz2 rfl (by decide) (by decide) [.int .u32 (num08 x.data.toList % 4294967296)] rfl rfl (by simp) hown rfl (one_u32 _) (by omega) hB (Below.refl base wz) (Nat.le_refl _) ?_; intro v2 w2 hown2 hb2; obtain ⟨B2, D2, hv2, _⟩ := owns_form hown2; subst hv2; have hk3 := (hb2.block g hgb).trans hkz; have hb3 := hbz.trans (hb2.mono (by omega : wr.heap.size ≤ base)); have LI3 := Lib.hid ((HNX.out w2 (.slice B2 (co.length + 1) D2) (num08 x.data.toList % 4294967296) hown2 hb2).setG 6 (.slice B2 (co.length + 1) D2)); clear hown hown2 hb2 HNX hkz hbz c0 c1 c2 c3 c4 c5 c6 c7 c8 c9 c10 c11 c12; obtain ⟨c0, c1, c2, c3, c4, c5, c6, c7, c8, c9, c10, c11, c12⟩ := aq_blk hk3; have zz := frozen_row hk3 6)
                  exact ⟨⟨j + 1, 1, pa, co ++ [(num08 x.data.toList % 4294967296)], cl, vp, (.slice B2 (co.length + 1) D2), vl, rfl, by go_num, by omega, by omega, by simp only [List.length_append, List.length_cons, List.length_nil]; omega, HA2, Lib.hid ⟨aset6 hk3, hb3.setCell (p := ⟨g, 6, none⟩) hgW _, LI3.out⟩⟩, by simp only [intOf]; omega⟩)
            · have pe0 : (((2 : Nat) : Int) == 0) = false := rfl
              have pe1 : (((2 : Nat) : Int) == 1) = false := rfl
              have pe2 : (((2 : Nat) : Int) == 2) = true := rfl
              have HA2 := Lib.hid (ainv_cl HA.out HX.out)
              rw [hjj] at HA2
              have KP := Lib.hid (fun W => refParse_any x W lx)
              clear cw lw HA HX
              generalize hbo : (x.toList == [99, 111, 109, 109]) = bo
              generalize hbp : (x.toList == [99, 108, 117, 115, 116, 101, 114, 115]) = bp
              cases bo
              all_goals (
                cases bp
                all_goals (
                  go_wp2_with fail
                  refine (KN.out x _).mono ?_
                  rintro e wy ⟨rfl, hbc⟩
                  have hky := blk_below hbc hkx
                  have hby := hbx.trans (hbc.mono hbx.size)
                  have LIy := LI.out.below hbc
                  have e1 := cell_kept hbc e0
                  clear hbx hkx LI e0 hbc c0 c1 c2 c3 c4 c5 c6 c7 c8 c9 c10 c11 c12
                  go_wp2_with fail
                  refine (KP.out _).mono ?_
                  rintro e wz ⟨rfl, hbc⟩
                  have hkz := blk_below hbc hky
                  have hbz := hby.trans (hbc.mono hby.size)
                  have LIz := LIy.below hbc
                  clear hby hky LIy e1 hbc
                  obtain ⟨c0, c1, c2, c3, c4, c5, c6, c7, c8, c9, c10, c11, c12⟩ := aq_blk hkz
                  obtain ⟨base, hgb, hB, hown, hnext⟩ := LIz.own2
                  have HNX := Lib.hid hnext
                  clear hnext LIz
                  go_wp2_with (at_builtin; refine wpList_push rfl _ _ 29 rfl 23 j0 _ 1 4 Tryz.underlying29 hj hy0 hy1 hy2 rfl (by decide) (by decide) [.int .u32 (adV (parseB x.data.toList))] rfl rfl (by simp) hown rfl (one_u32 _) (by omega) hB (Below.refl base wz) (Nat.le_refl _) ?_; intro v2 w2 hown2 hb2; obtain ⟨B2, D2, hv2, _⟩ := owns_form hown2; subst hv2; have hk3 := (hb2.block g hgb).trans hkz; have hb3 := hbz.trans (hb2.mono (by omega : wr.heap.size ≤ base)); have LI3 := Lib.hid ((HNX.out w2 (.slice B2 (cl.length + 1) D2) (adV (parseB x.data.toList)) hown2 hb2).setG 11 (.slice B2 (cl.length + 1) D2)); clear hown hown2 hb2 HNX hkz hbz c0 c1 c2 c3 c4 c5 c6 c7 c8 c9 c10 c11 c12; obtain ⟨c0, c1, c2, c3, c4, c5, c6, c7, c8, c9, c10, c11, c12⟩ := aq_blk hk3; have zz := frozen_row hk3 11)
                  exact ⟨⟨j + 1, 2, pa, co, cl ++ [(adV (parseB x.data.toList))], vp, vo, (.slice B2 (cl.length + 1) D2), rfl, by go_num, by omega, by omega, by simp only [List.length_append, List.length_cons, List.length_nil]; omega, HA2, Lib.hid ⟨aset11 hk3, hb3.setCell (p := ⟨g, 11, none⟩) hgW _, LI3.out⟩⟩, by simp only [intOf]; omega⟩))
          · obtain rfl : j = n := by omega
            have hI : ¬ (j : Int) < (j : Int) := by omega
            have hL := ainv_done HA.out (by rw [List.length_map]; have := HNR.out; omega)
            have hO := avO_cand (l := s.data.toList) (c := candA x0.data.toList x2.data.toList x8.data.toList x10.data.toList x11.data.toList x13.data.toList (num08 x4.data.toList) (num08 x6.data.toList) (sess08 x15.data.toList) pa co cl (num08_64 _) (num08_64 _) (sess08_64 _) HA.out.up HA.out.uo HA.out.ul) (fun r hr hw => candA_fits (num08_rel _) (num08_rel _) (sess08_rel _) hL hr (hw.trans HPW.out))
            have TT := LI.out.done
            obtain ⟨Ap, cp, hvp, _⟩ := TT.1.1.form
            obtain ⟨Ao, co', hvo, _⟩ := TT.2.1.1.form
            obtain ⟨Al, cl', hvl, _⟩ := TT.2.2.1.form
            subst hvp hvo hvl
            have hkC : wx.heap[g]? = some (avObj (candA x0.data.toList x2.data.toList x8.data.toList x10.data.toList x11.data.toList x13.data.toList (num08 x4.data.toList) (num08 x6.data.toList) (sess08 x15.data.toList) pa co cl (num08_64 _) (num08_64 _) (sess08_64 _) HA.out.up HA.out.uo HA.out.ul) (.slice Ap pa.length cp) (.slice Ao co.length co') (.slice Al cl.length cl')) := hkx
            have e1 : (candA x0.data.toList x2.data.toList x8.data.toList x10.data.toList x11.data.toList x13.data.toList (num08 x4.data.toList) (num08 x6.data.toList) (sess08 x15.data.toList) pa co cl (num08_64 _) (num08_64 _) (sess08_64 _) HA.out.up HA.out.uo HA.out.ul).pa = pa := rfl
            have e2 : (candA x0.data.toList x2.data.toList x8.data.toList x10.data.toList x11.data.toList x13.data.toList (num08 x4.data.toList) (num08 x6.data.toList) (sess08 x15.data.toList) pa co cl (num08_64 _) (num08_64 _) (sess08_64 _) HA.out.up HA.out.uo HA.out.ul).co = co := rfl
            have e3 : (candA x0.data.toList x2.data.toList x8.data.toList x10.data.toList x11.data.toList x13.data.toList (num08 x4.data.toList) (num08 x6.data.toList) (sess08 x15.data.toList) pa co cl (num08_64 _) (num08_64 _) (sess08_64 _) HA.out.up HA.out.uo HA.out.ul).cl = cl := rfl
            clear hL hkx HB c0 c1 c2 c3 c4 c5 c6 c7 c8 c9 c10 c11 c12 LI
            generalize candA x0.data.toList x2.data.toList x8.data.toList x10.data.toList x11.data.toList x13.data.toList (num08 x4.data.toList) (num08 x6.data.toList) (sess08 x15.data.toList) pa co cl (num08_64 _) (num08_64 _) (sess08_64 _) HA.out.up HA.out.uo HA.out.ul = C at *
            clear HA
            subst e1 e2 e3
            obtain ⟨c0, c1, c2, c3, c4, c5, c6, c7, c8, c9, c10, c11, c12⟩ := av_blk hkC
            have HO := Lib.hid hO
            have hT0 := refAvText_any C _ _ _ wx TT.1.1 TT.2.1.1 TT.2.2.1 (by omega)
            have TT := Lib.hid TT
            obtain ⟨tt, htt⟩ : ∃ x, (⟨C.told.toArray⟩ : ByteArray) = x := ⟨_, rfl⟩
            rw [htt] at hT0
            have hT := Lib.hid hT0
            have HTT := Lib.hid htt
            clear hT0 htt hO hsum
            go_wp2_with fail
            refine hT.out.mono ?_
            rintro e wh ⟨rfl, hbh⟩
            have HKC2 := Lib.hid (blk_below hbh hkC)
            have hbW := hbx.trans (hbh.mono hbx.size)
            have hk0 := (hbW.block _ sz0).trans HK1.out
            have hbw := hb1.trans (hbW.mono hb1.size)
            have TT := Lib.hid (And.intro (TT.out.1.below hbh) (And.intro (TT.out.2.1.below hbh) (TT.out.2.2.below hbh)))
            clear c0 c1 c2 c3 c4 c5 c6 c7 c8 c9 c10 c11 c12 hkC hbh hT hbx
            obtain ⟨d0, d1, d2, d3, d4, d5, d6, d7, d8, d9, d10, d11, d12⟩ := av_blk (r := av0) hk0
            have z0 := frozen_row hk0 0
            have z1 := frozen_row hk0 1
            have z2 := frozen_row hk0 2
            have z3 := frozen_row hk0 3
            have z4 := frozen_row hk0 4
            have z5 := frozen_row hk0 5
            have z6 := frozen_row hk0 6
            have z7 := frozen_row hk0 7
            have z8 := frozen_row hk0 8
            have z9 := frozen_row hk0 9
            have z10 := frozen_row hk0 10
            have z11 := frozen_row hk0 11
            have z12 := frozen_row hk0 12
            have HKZ := Lib.hid hk0
            clear hk0
            cases hok : C.ok with
            | true =>
              have ht1 := av_told_yes hok
              have hs2 : (C.toldE != 0) = false := by rw [ht1.2]; rfl
              by_cases ht : C.text = s.data.toList
              · have hs1 : (tt.toList != s.toList) = false := by rw [← HTT.out, ht1.1, ht, str_mk]; simp
                have hs3 : (tt.toList == s.toList) = true := by simpa using hs1
                have hz := Lib.hid (av_some (HO.out.trans (if_pos ⟨hok, ht⟩)))
                have hkC2 := HKC2.out
                obtain ⟨c0, c1, c2, c3, c4, c5, c6, c7, c8, c9, c10, c11, c12⟩ := av_blk hkC2
                clear hkC2 hok ht ht1
                go_wp2_with fail
                exact bodyPost_ret (results_a (t1 := 2) (t3 := 3) (g := w.heap.size) (r := C) (vp := (.slice Ap C.pa.length cp)) (vo := (.slice Ao C.co.length co')) (vl := (.slice Al C.cl.length cl')) Tryz.results13 rfl rfl (aset12 (aset11 (aset10 (aset9 (aset8 (aset7 (aset6 (aset5 (aset4 (aset3 (aset2 (aset1 (aset0 HKZ.out)))))))))))))) rfl (avRes_yes hz.out rfl TT.out.1.rd13 TT.out.2.1.rd13 TT.out.2.2.rd13 (((((((((((((hbw.setCell (Nat.le_refl _) _).setCell (Nat.le_refl _) _).setCell (Nat.le_refl _) _).setCell (Nat.le_refl _) _).setCell (Nat.le_refl _) _).setCell (Nat.le_refl _) _).setCell (Nat.le_refl _) _).setCell (Nat.le_refl _) _).setCell (Nat.le_refl _) _).setCell (Nat.le_refl _) _).setCell (Nat.le_refl _) _).setCell (Nat.le_refl _) _).setCell (Nat.le_refl _) _))
              · have hs1 : (tt.toList != s.toList) = true := by
                  rw [← HTT.out, ht1.1, list_of, list_of]
                  simpa using ht
                have hs3 : (tt.toList == s.toList) = false := by simpa using hs1
                have hz := Lib.hid ( (show avO s.data.toList = none from HO.out.trans (if_neg fun h => ht h.2)))
                clear hok ht ht1
                go_wp2_with fail
                exact bodyPost_ret (results_a (t1 := 2) (t3 := 3) (g := w.heap.size) (r := av0) (vp := (.slice none 0 0)) (vo := (.slice none 0 0)) (vl := (.slice none 0 0)) Tryz.results13 rfl rfl (aset12 (aset11 (aset10 (aset9 (aset8 (aset7 (aset6 (aset5 (aset4 (aset3 (aset2 (aset1 (aset0 HKZ.out)))))))))))))) rfl (avRes_no hz.out rfl (((((((((((((hbw.setCell (Nat.le_refl _) _).setCell (Nat.le_refl _) _).setCell (Nat.le_refl _) _).setCell (Nat.le_refl _) _).setCell (Nat.le_refl _) _).setCell (Nat.le_refl _) _).setCell (Nat.le_refl _) _).setCell (Nat.le_refl _) _).setCell (Nat.le_refl _) _).setCell (Nat.le_refl _) _).setCell (Nat.le_refl _) _).setCell (Nat.le_refl _) _).setCell (Nat.le_refl _) _))
            | false =>
              have ht1 := av_told_no hok
              have hs2 : (C.toldE != 0) = true := by rw [ht1.2]; rfl
              have hz := Lib.hid ( (show avO s.data.toList = none from HO.out.trans (if_neg fun h => by rw [hok] at h; exact absurd h.1 (by decide))))
              clear hok ht1
              go_wp2_with fail
              exact bodyPost_ret (results_a (t1 := 2) (t3 := 3) (g := w.heap.size) (r := av0) (vp := (.slice none 0 0)) (vo := (.slice none 0 0)) (vl := (.slice none 0 0)) Tryz.results13 rfl rfl (aset12 (aset11 (aset10 (aset9 (aset8 (aset7 (aset6 (aset5 (aset4 (aset3 (aset2 (aset1 (aset0 HKZ.out)))))))))))))) rfl (avRes_no hz.out rfl (((((((((((((hbw.setCell (Nat.le_refl _) _).setCell (Nat.le_refl _) _).setCell (Nat.le_refl _) _).setCell (Nat.le_refl _) _).setCell (Nat.le_refl _) _).setCell (Nat.le_refl _) _).setCell (Nat.le_refl _) _).setCell (Nat.le_refl _) _).setCell (Nat.le_refl _) _).setCell (Nat.le_refl _) _).setCell (Nat.le_refl _) _).setCell (Nat.le_refl _) _).setCell (Nat.le_refl _) _))
  · have hd : (L.length : Int) < 19 := by omega
    have hno := Lib.hid (avO_len (l := s.data.toList) (by rw [hP.out, List.length_map]; omega))
    clear hrd hP hsz
    obtain ⟨c0, c1, c2, c3, c4, c5, c6, c7, c8, c9, c10, c11, c12⟩ := av_blk hk1
    have z0 := frozen_row hk1 0
    have z1 := frozen_row hk1 1
    have z2 := frozen_row hk1 2
    have z3 := frozen_row hk1 3
    have z4 := frozen_row hk1 4
    have z5 := frozen_row hk1 5
    have z6 := frozen_row hk1 6
    have z7 := frozen_row hk1 7
    have z8 := frozen_row hk1 8
    have z9 := frozen_row hk1 9
    have z10 := frozen_row hk1 10
    have z11 := frozen_row hk1 11
    have z12 := frozen_row hk1 12
    have HK1 := Lib.hid hk1
    clear hk1
    go_wp2
    exact bodyPost_ret (results_a (t1 := 2) (t3 := 3) (g := w.heap.size) (r := av0) (vp := (.slice none 0 0)) (vo := (.slice none 0 0)) (vl := (.slice none 0 0)) Tryz.results13 rfl rfl (aset12 (aset11 (aset10 (aset9 (aset8 (aset7 (aset6 (aset5 (aset4 (aset3 (aset2 (aset1 (aset0 HK1.out)))))))))))))) rfl (avRes_no hno.out rfl (((((((((((((hb1.setCell (Nat.le_refl _) _).setCell (Nat.le_refl _) _).setCell (Nat.le_refl _) _).setCell (Nat.le_refl _) _).setCell (Nat.le_refl _) _).setCell (Nat.le_refl _) _).setCell (Nat.le_refl _) _).setCell (Nat.le_refl _) _).setCell (Nat.le_refl _) _).setCell (Nat.le_refl _) _).setCell (Nat.le_refl _) _).setCell (Nat.le_refl _) _).setCell (Nat.le_refl _) _))
end Go.Proofs.YtpmoepipoafegaaGreatDoor

/-
  Walks over the document's prefix and CmpAdvert at like adverts.
-/
namespace Go.Proofs.YtpmoepipoafegaaGreatDoor
open Go Go.RowKit Go.Sort

set_option maxRecDepth 100000 in
set_option maxHeartbeats 4000000 in
theorem refPre_same (a m : Int) (w : World) : Calls Tryz.prog 43 #[.agg #[.int .u32 a, .int .i64 m], .agg #[.int .u32 a, .int .i64 m]] w fun e w' => e = .returned (.int .i64 0) ∧ Below w.heap.size w w' := by
  have hb0 := below2 w (.cells #[.int .u32 a, .int .i64 m] 25) (.cells #[.int .u32 a, .int .i64 m] 25)
  obtain ⟨k0, k1⟩ := blk2 w (.cells #[.int .u32 a, .int .i64 m] 25) (.cells #[.int .u32 a, .int .i64 m] 25)
  obtain ⟨c0, c1, _, _⟩ := two_cells k0
  obtain ⟨d0, d1, _, _⟩ := two_cells k1
  have hno := Lib.hid one_no
  have KO := Lib.hid (fun n v w h hn => firstZ n v w h hn)
  have l0 : ¬ a < a := by omega
  have l1 : ¬ m < m := by omega
  go_enter Tryz.func43, Tryz.ntmps43
  go_upto_region 1 with fail
  clear k0 k1
  generalize (w.alloc (.cells #[.int .u32 a, .int .i64 m] 25)).alloc (.cells #[.int .u32 a, .int .i64 m] 25) = W at *
  have F0 := cell_regrown c0
  have G0 := cell_regrown d0
  have F1 := cell_regrown c1
  have G1 := cell_regrown d1
  refine wp_region_tail_below 22 (by kernel_rfl) (by kernel_rfl) ?_
  simp only [List.take_succ_cons, List.take_zero, List.drop_succ_cons, List.drop_zero]
  repeat (first | go_big_quiet_step ((go_at_call 44; with_reducible exact Calls.regrown_of (hno.out _))) | quiet_step ((go_at_call 44; with_reducible exact Calls.regrown_of (hno.out _))))
  refine wpQuiet_nil ?_
  intro W3 hw'
  obtain ⟨⟨nq, osq⟩, hw''⟩ := hw'
  have hb3 := hw'' ▸ below_regrown W nq osq
  clear hw''
  have hb4 := below_call hb0 hb3
  clear F0 G0 c0 d0 F1 G1 c1 d1
  go_wp2_with fail
  refine (KO.out 2 _ _ (Rd.of_blk (cs := #[.int .i64 0, .int .i64 0]) (t := 3) (heap_alloc_new _ _) (Nat.le_refl _) rfl) (by decide)).mono ?_
  rintro e w4 ⟨rfl, hb⟩
  have hb5 := below_call (hb4.alloc hb4.size _) hb
  go_wp2
  go_ret
  exact ⟨rfl, hb5⟩
end Go.Proofs.YtpmoepipoafegaaGreatDoor

/-
  The order's check of a region that draws its order, by bit masks: for regions of a hundred operations. No program in sight.
-/
namespace Go.Proofs.YtpmoepipoafegaaGreatDoor
open Go Go.RowKit Go.Sort

/-- What the check asks of an operation: what it waits for, what it writes, what it looks at, whether it is plain. -/
abbrev ORow := Nat × Nat × Nat × Bool
def maskOf (l : List Nat) : Nat := l.foldr (fun i a => Nat.lor (2 ^ i) a) 0
theorem testBit_mask (l : List Nat) (i : Nat) : (maskOf l).testBit i = decide (i ∈ l) := by
  induction l with
  | nil => simp [maskOf]
  | cons x l ih =>
    have h : maskOf (x :: l) = 2 ^ x ||| maskOf l := rfl
    rw [h, Nat.testBit_or, ih, Nat.testBit_two_pow, Bool.eq_iff_iff]
    simp only [Bool.or_eq_true, decide_eq_true_eq, List.mem_cons]
    exact ⟨fun h => h.imp Eq.symm id, fun h => h.imp Eq.symm id⟩
section
variable {P : Program} {ops : Array Oper} {md : Region.Mode} {S : World → Prop} {Q : Exit → Act → World → Prop}
def depsOf (md : Region.Mode) (o : Oper) : List Nat := (o.after.toList.filter (fun e => Region.binds md e)).map (·.on)
def rowOf (md : Region.Mode) (ops : Array Oper) (o : Oper) : ORow := (maskOf (depsOf md o), (match o.dst with | some d => 2 ^ d | none => 0), maskOf (o.looksAt ops), plainB o.op)
def subM (a b : Nat) : Bool := Nat.beq (Nat.land a b) a
def disjR (x y : ORow) : Bool := Nat.beq (Nat.land x.2.1 y.2.2.1) 0 && (Nat.beq (Nat.land y.2.1 x.2.2.1) 0 && Nat.beq (Nat.land x.2.1 y.2.1) 0)
def pairsR (i : Nat) (x : ORow) : Nat → List ORow → Bool
  | _, [] => true
  | j, y :: r => (Nat.testBit x.1 j || (Nat.testBit y.1 i || disjR x y)) && pairsR i x (j + 1) r
def allPairs : Nat → List ORow → Bool
  | _, [] => true
  | i, x :: r => pairsR i x (i + 1) r && allPairs (i + 1) r
def onlyR (L k : Nat) : Nat → List ORow → Bool
  | _, [] => true
  | j, y :: r => (Nat.beq j k || (Nat.testBit L j || !subM y.1 L)) && onlyR L k (j + 1) r
def allSet (L : Nat) : Nat → Bool
  | 0 => true
  | n + 1 => Nat.testBit L n && allSet L n
def goR (rows : List ORow) (n : Nat) : List (Nat × Bool) → Nat → Bool
  | [], L => allSet L n
  | (k, b) :: m, L => (match rows[k]? with
      | some y => !Nat.testBit L k && (subM y.1 L && (match b with | true => onlyR L k 0 rows | false => y.2.2.2))
      | none => false) && goR rows n m (Nat.lor L (2 ^ k))
def eqRows : List ORow → List ORow → Bool
  | [], [] => true
  | x :: r, y :: s => Nat.beq x.1 y.1 && (Nat.beq x.2.1 y.2.1 && (Nat.beq x.2.2.1 y.2.2.1 && (x.2.2.2 == y.2.2.2 && eqRows r s)))
  | _, _ => false
theorem eqRows_eq : ∀ {r s : List ORow}, eqRows r s = true → r = s
  | [], [], _ => rfl
  | x :: r, y :: s, h => by
    simp only [eqRows, Bool.and_eq_true, beq_iff_eq] at h
    obtain ⟨h1, h2, h3, h4, h5⟩ := h
    obtain ⟨a, b, c, d⟩ := x
    obtain ⟨a', b', c', d'⟩ := y
    dsimp only at h1 h2 h3 h4
    rw [eqRows_eq h5, Nat.eq_of_beq_eq_true h1, Nat.eq_of_beq_eq_true h2, Nat.eq_of_beq_eq_true h3, h4]
  | [], _ :: _, h => by simp [eqRows] at h
  | _ :: _, [], h => by simp [eqRows] at h
def mixFast (l : List Oper) (rows : List ORow) (m : List (Nat × Bool)) : Bool :=
  Region.noSelect l.toArray && (Nat.beq m.length l.length && (eqRows (l.map (rowOf .any l.toArray)) rows && (allPairs 0 rows && goR rows l.length m 0)))
theorem sub_bits {a b : Nat} (h : subM a b = true) (i : Nat) (hi : a.testBit i = true) : b.testBit i = true := by
  have e : a &&& b = a := Nat.eq_of_beq_eq_true h
  have := congrArg (fun x => Nat.testBit x i) e
  simp only [Nat.testBit_and, hi, Bool.true_and] at this
  exact this
theorem sub_of_bits {a b : Nat} (h : ∀ i, a.testBit i = true → b.testBit i = true) : subM a b = true := by
  have e : a &&& b = a := Nat.eq_of_testBit_eq fun i => by
    rw [Nat.testBit_and]
    cases ha : a.testBit i with
    | true => rw [h i ha]; rfl
    | false => rfl
  unfold subM
  exact Nat.beq_eq.symm ▸ e
theorem disj_bits {a b : Nat} (h : Nat.beq (Nat.land a b) 0 = true) (i : Nat) (ha : a.testBit i = true) : b.testBit i = false := by
  have e : a &&& b = 0 := Nat.eq_of_beq_eq_true h
  have := congrArg (fun x => Nat.testBit x i) e
  simpa [Nat.testBit_and, ha] using this
theorem deps_bit (o : Oper) (i : Nat) : (maskOf (depsOf md o)).testBit i = true ↔ ∃ e ∈ o.after, Region.binds md e = true ∧ e.on = i := by
  rw [testBit_mask, decide_eq_true_eq]
  simp only [depsOf, List.mem_map, List.mem_filter, Array.mem_toList_iff]
  exact ⟨fun ⟨e, ⟨h1, h2⟩, h3⟩ => ⟨e, h1, h2, h3⟩, fun ⟨e, h1, h2, h3⟩ => ⟨e, ⟨h1, h2⟩, h3⟩⟩
theorem disj_apart {x y : Oper} (h : disjR (rowOf md ops x) (rowOf md ops y) = true) : x.apart ops y = true := by
  simp only [disjR, Bool.and_eq_true, rowOf] at h
  obtain ⟨h1, h2, h3⟩ := h
  unfold Oper.apart
  cases hx : x.dst with
  | none =>
    cases hy : y.dst with
    | none => rfl
    | some d' =>
      rw [hy] at h2
      have := disj_bits h2 d' (by simp)
      rw [testBit_mask] at this
      simpa using this
  | some d =>
    rw [hx] at h1 h3
    have a1 := disj_bits h1 d (by simp)
    rw [testBit_mask] at a1
    have a3 := disj_bits h3 d (by simp)
    cases hy : y.dst with
    | none => simpa using a1
    | some d' =>
      rw [hy] at h2 a3
      have a2 := disj_bits h2 d' (by simp)
      rw [testBit_mask] at a2
      simp only [Nat.testBit_two_pow, decide_eq_false_iff_not] at a3
      simp only [decide_eq_false_iff_not] at a1 a2
      simp only [Bool.and_eq_true, Bool.not_eq_true', bne_iff_ne, ne_eq, Option.some.injEq, List.contains_eq_mem, decide_eq_false_iff_not]
      exact ⟨⟨a1, a3⟩, a2⟩
theorem disj_symm {x y : ORow} (h : disjR x y = true) : disjR y x = true := by
  simp only [disjR, Bool.and_eq_true] at h ⊢
  exact ⟨h.2.1, h.1, by rw [show Nat.land y.2.1 x.2.1 = Nat.land x.2.1 y.2.1 from Nat.and_comm _ _]; exact h.2.2⟩
theorem pairs_get {i : Nat} {x : ORow} : ∀ {s : Nat} {r : List ORow}, pairsR i x s r = true → ∀ (j : Nat) (y : ORow), r[j]? = some y → x.1.testBit (s + j) = true ∨ y.1.testBit i = true ∨ disjR x y = true
  | s, [], _, j, y, hj => by simp at hj
  | s, z :: r, h, j, y, hj => by
    simp only [pairsR, Bool.and_eq_true, Bool.or_eq_true] at h
    cases j with
    | zero => simp at hj; rw [← hj]; exact h.1
    | succ j =>
      have := pairs_get h.2 j y (by simpa using hj)
      rwa [show s + (j + 1) = s + 1 + j by omega]
theorem all_get : ∀ {s : Nat} {r : List ORow}, allPairs s r = true → ∀ (i j : Nat) (x y : ORow), i < j → r[i]? = some x → r[j]? = some y → x.1.testBit (s + j) = true ∨ y.1.testBit (s + i) = true ∨ disjR x y = true
  | s, [], _, i, j, x, y, _, hi, _ => by simp at hi
  | s, z :: r, h, i, j, x, y, hij, hi, hj => by
    simp only [allPairs, Bool.and_eq_true] at h
    cases j with
    | zero => omega
    | succ j =>
      cases i with
      | zero =>
        simp at hi
        have := pairs_get h.1 j y (by simpa using hj)
        rw [← hi, Nat.add_zero]
        rwa [show s + (j + 1) = s + 1 + j by omega]
      | succ i =>
        have := all_get h.2 i j x y (by omega) (by simpa using hi) (by simpa using hj)
        rwa [show s + (j + 1) = s + 1 + j by omega, show s + (i + 1) = s + 1 + i by omega]
theorem only_get {L k : Nat} : ∀ {s : Nat} {r : List ORow}, onlyR L k s r = true → ∀ (j : Nat) (y : ORow), r[j]? = some y → s + j = k ∨ L.testBit (s + j) = true ∨ subM y.1 L = false
  | s, [], _, j, y, hj => by simp at hj
  | s, z :: r, h, j, y, hj => by
    simp only [onlyR, Bool.and_eq_true, Bool.or_eq_true, Bool.not_eq_true'] at h
    cases j with
    | zero =>
      simp at hj
      rw [← hj, Nat.add_zero]
      exact h.1.imp Nat.eq_of_beq_eq_true id
    | succ j =>
      have := only_get h.2 j y (by simpa using hj)
      rwa [show s + (j + 1) = s + 1 + j by omega]
theorem allSet_get {L : Nat} : ∀ {n : Nat}, allSet L n = true → ∀ i, i < n → L.testBit i = true
  | 0, _, i, h => by omega
  | n + 1, h, i, hi => by
    simp only [allSet, Bool.and_eq_true] at h
    by_cases e : i = n
    · rw [e]; exact h.1
    · exact allSet_get h.2 i (by omega)
theorem single_of {l : List Nat} {k : Nat} (hn : l.Nodup) (hk : k ∈ l) (h : ∀ x ∈ l, x = k) : l = [k] := by
  cases l with
  | nil => cases hk
  | cons a t =>
    obtain rfl := h a (by simp)
    cases t with
    | nil => rfl
    | cons b t =>
      have := h b (by simp)
      rw [this] at hn
      simp at hn
/-- The mask and the array of those that have come up. -/
def RelL (n L : Nat) (listed : Array Bool) : Prop := listed.size = n ∧ ∀ i, listed.getD i false = L.testBit i
theorem rel_true {n L : Nat} {listed : Array Bool} (h : RelL n L listed) {i : Nat} (hi : i < n) : listed.getD i true = L.testBit i := by
  rw [← h.2 i]
  have : i < listed.size := by rw [h.1]; exact hi
  simp [Array.getD, this]
theorem rel_set {n L k : Nat} {listed : Array Bool} (h : RelL n L listed) (hk : k < n) : RelL n (Nat.lor L (2 ^ k)) (listed.setIfInBounds k true) := by
  refine ⟨by simpa using h.1, fun i => ?_⟩
  have e : (Nat.lor L (2 ^ k)).testBit i = (L.testBit i || decide (k = i)) := by
    show (L ||| 2 ^ k).testBit i = _
    rw [Nat.testBit_or, Nat.testBit_two_pow]
  rw [e, ← h.2 i]
  have hs := h.1
  by_cases hik : k = i
  · subst hik
    have : k < listed.size := by omega
    simp [Array.getD, this]
  · rw [Array.getD_eq_getD_getElem?, Array.getD_eq_getD_getElem?, Array.getElem?_setIfInBounds_ne (fun e => hik e)]
    simp [hik]
theorem rows_get {l : List Oper} {rows : List ORow} (hr : l.map (rowOf md l.toArray) = rows) (j : Nat) : rows[j]? = (l.toArray[j]?).map (rowOf md l.toArray) := by
  rw [← hr, List.getElem?_map]; simp
theorem ready_iff {l : List Oper} {L : Nat} {listed : Array Bool} (h : RelL l.length L listed) {j : Nat} {o : Oper} (ho : l.toArray[j]? = some o) : j ∈ Region.ready md l.toArray listed ↔ L.testBit j = false ∧ subM (rowOf md l.toArray o).1 L = true := by
  have hj : j < l.length := by
    have := (Array.getElem?_eq_some_iff.1 ho).1
    simpa using this
  rw [mem_ready, rel_true h hj]
  refine and_congr Iff.rfl ⟨fun ⟨o', h1, h2⟩ => ?_, fun hs => ⟨o, ho, fun e he hb => ?_⟩⟩
  · rw [ho] at h1
    injection h1 with h1
    subst h1
    refine sub_of_bits fun i hi => ?_
    obtain ⟨e, he, hb, rfl⟩ := (deps_bit o i).1 hi
    rw [← h.2]; exact h2 e he hb
  · rw [h.2]
    exact sub_bits hs _ ((deps_bit o _).2 ⟨e, he, hb, rfl⟩)
theorem mixB_of_goR {l : List Oper} {rows : List ORow} (hr : l.map (rowOf md l.toArray) = rows) (hp : allPairs 0 rows = true) : ∀ (m : List (Nat × Bool)) (L : Nat) (listed : Array Bool), RelL l.length L listed → goR rows l.length m L = true → mixB md l.toArray m listed = true
  | [], L, listed, h, hg => by
    simp only [goR] at hg
    unfold mixB
    rw [List.isEmpty_iff, List.eq_nil_iff_forall_not_mem]
    intro j hj
    obtain ⟨h1, o, ho, _⟩ := mem_ready.1 hj
    have hjl : j < l.length := by
      have := (Array.getElem?_eq_some_iff.1 ho).1
      simpa using this
    rw [rel_true h hjl, allSet_get hg j hjl] at h1
    cases h1
  | (k, b) :: m, L, listed, h, hg => by
    unfold goR at hg
    rw [Bool.and_eq_true, rows_get hr] at hg
    obtain ⟨hg1, hg2⟩ := hg
    cases ho : l.toArray[k]? with
    | none => rw [ho] at hg1; cases hg1
    | some o =>
      rw [ho] at hg1
      simp only [Option.map_some, Bool.and_eq_true, Bool.not_eq_true'] at hg1
      obtain ⟨k1, k2, k3⟩ := hg1
      have hkl : k < l.length := by
        have := (Array.getElem?_eq_some_iff.1 ho).1
        simpa using this
      have ih := mixB_of_goR hr hp m _ _ (rel_set h hkl) hg2
      have hready := (ready_iff (md := md) h ho).2 ⟨k1, k2⟩
      cases b with
      | true =>
        dsimp only at k3
        unfold mixB
        rw [ih, Bool.and_true, decide_eq_true_eq]
        refine single_of ?_ hready fun j hj => ?_
        · unfold Region.ready
          exact List.Nodup.sublist List.filter_sublist List.nodup_range
        · obtain ⟨_, oj, hoj, _⟩ := mem_ready.1 hj
          obtain ⟨j1, j2⟩ := (ready_iff (md := md) h hoj).1 hj
          have hg := only_get k3 j (rowOf md l.toArray oj) (by rw [rows_get hr, hoj]; rfl)
          rw [Nat.zero_add, j1, j2] at hg
          rcases hg with hg | hg | hg
          · exact hg
          · cases hg
          · cases hg
      | false =>
        dsimp only at k3
        unfold mixB
        simp only [Bool.and_eq_true, ih, and_true, ho]
        refine ⟨⟨by simpa using hready, ?_⟩, k3⟩
        unfold Region.free
        simp only [ho, List.all_eq_true, List.mem_range]
        intro j hj
        have hjl : j < l.length := by simpa using hj
        rw [rel_true h hjl]
        cases hoj : l.toArray[j]? with
        | none => simp
        | some oj =>
          dsimp only
          by_cases hjk : j = k
          · simp [hjk]
          cases hL : L.testBit j with
          | true => simp
          | false =>
            have key : ((rowOf md l.toArray o).1.testBit j = true) ∨ ((rowOf md l.toArray oj).1.testBit k = true) ∨ o.apart l.toArray oj = true := by
              have rk : rows[k]? = some (rowOf md l.toArray o) := by rw [rows_get hr, ho]; rfl
              have rj : rows[j]? = some (rowOf md l.toArray oj) := by rw [rows_get hr, hoj]; rfl
              rcases Nat.lt_or_gt_of_ne hjk with hlt | hlt
              · have := all_get hp j k _ _ hlt rj rk
                rw [Nat.zero_add, Nat.zero_add] at this
                rcases this with e | e | e
                · exact Or.inr (Or.inl e)
                · exact Or.inl e
                · exact Or.inr (Or.inr (disj_apart (disj_symm e)))
              · have := all_get hp k j _ _ hlt rk rj
                rw [Nat.zero_add, Nat.zero_add] at this
                rcases this with e | e | e
                · exact Or.inl e
                · exact Or.inr (Or.inl e)
                · exact Or.inr (Or.inr (disj_apart e))
            rcases key with e | e | e
            · have := sub_bits k2 j e
              rw [hL] at this; cases this
            · obtain ⟨e', h1, h2, h3⟩ := (deps_bit oj k).1 e
              have : (oj.after.any fun e => Region.binds md e && e.on == k) = true := by
                rw [← Array.any_toList, List.any_eq_true]
                exact ⟨e', Array.mem_toList_iff.2 h1, by simp [h2, h3]⟩
              simp [this]
            · simp [e]
theorem mixFast_ok {l : List Oper} {rows : List ORow} {m : List (Nat × Bool)} (h : mixFast l rows m = true) : mixOk l m = true := by
  simp only [mixFast, Bool.and_eq_true] at h
  obtain ⟨h1, h2, h3, h4, h5⟩ := h
  simp only [mixOk, Bool.and_eq_true, decide_eq_true_eq]
  refine ⟨⟨h1, Nat.eq_of_beq_eq_true h2⟩, mixB_of_goR (eqRows_eq h3) h4 m 0 _ ⟨by simp, fun i => ?_⟩ h5⟩
  simp [Array.getD, Nat.zero_testBit]
theorem wp_region_mixF {id : Nat} {a : Act} {w : World} {l : List Oper} (m : List (Nat × Bool)) (rows : List ORow) (hm : P.follows .mixedOrders = true) (hB : mixFast l rows m = true)
    (h : mixW P l.toArray (NoPanic Q) m (fun w' => ∃ p : Regrown, w' = grow (redrawn w p.d) p.os) a { w with drawn := w.drawn + 1 }) : (Code.region id l.toArray true).wp P Q a w := wp_region_mix m hm (mixFast_ok hB) h
end
end Go.Proofs.YtpmoepipoafegaaGreatDoor

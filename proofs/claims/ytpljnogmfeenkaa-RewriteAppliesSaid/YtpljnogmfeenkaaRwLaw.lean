/-
  The walk of the law RewriteApplies (written by wip/gen/genrwlaw.py).
-/
import Derived.Test.YtpljnogmfeenkaaRw7
import Derived.Deep.DeepCutAuto
import Derived.Laws.OwnMore
namespace Go.Proofs.Ytpljnogmfeenkaa
open Go Go.RowKit Go.Sort

theorem Try.infoRew : (Try.prog.info? 77).map (fun i => (i.zero, i.size, i.bytes)) = some (some (.agg #[.bool false, .string ByteArray.empty, .int .u32 0]), 3, 32) := by kernel_rfl
theorem wcells_one (L : List RewV) : ∀ u ∈ wcells L, u.oneCell' = true := by
  intro u hu
  obtain ⟨r, _, hr⟩ := List.mem_flatMap.1 hu
  simp only [RewV.enc, List.mem_cons, List.not_mem_nil, or_false] at hr
  rcases hr with rfl | rfl | rfl <;> rfl
theorem made_at (W : World) (n : Nat) (e : TypeId) (size : Nat) (hn : W.heap.size = n) : (W.alloc (.cells #[] e)).ownsRow n e size (.slice (some ⟨n, 0, none⟩) 0 0) 0 [] := by
  subst hn
  exact World.ownsRow_made W #[] 0 (Nat.le_refl _) (Nat.zero_le _) (by simp)
/-- '!=' says false of a rewrite and itself. -/
@[go_sem] theorem neqRew (d : Bool) (s : ByteArray) (t : Int) (w : World) : (binOp .neq 77 (.agg #[.bool d, .string s, .int .u32 t]) (.agg #[.bool d, .string s, .int .u32 t])).run Try.prog w = .ok (.bool false) w := by
  have hS : Try.prog.underlying 77 = some (.struct (Try.prog.fieldsOf 77)) := by kernel_rfl
  have hp : Try.prog.stoodInHeld 77 = false := by kernel_rfl
  have b1 := Try.underlying23
  have b2 := Try.isAgg23
  have b3 := Try.sizeOf23
  have c1 := Try.underlying4
  have c2 := Try.isAgg4
  have c3 := Try.sizeOf4
  have d1 := Try.underlying9
  have d2 := Try.isAgg9
  have d3 := Try.sizeOf9
  rw [run_neq_struct, show (10000 : Nat) = 9998 + 1 + 1 from rfl, run_equalIn_agg w (9998 + 1) 77 _ _ hS hp]
  generalize 9998 = d
  simp only [Program.fieldsOf, Try.underlying77]
  go_simp
theorem wcells_set : ∀ (M : List RewV) (q : Nat) (x : RewV) (a b : Value) (y : RewV), M[q]? = some x → y.enc = [a, .string x.nm, b] → ((wcells M).set (q * 3) a).set (q * 3 + 2) b = wcells (M.set q y)
  | [], q, x, a, b, y, h, _ => by simp at h
  | z :: M, 0, x, a, b, y, h, he => by
    simp at h; subst h
    show [a, .string z.nm, b] ++ wcells M = y.enc ++ wcells M
    rw [he]
  | z :: M, q + 1, x, a, b, y, h, he => by
    have ih := wcells_set M q x a b y (by simpa using h) he
    rw [show (q + 1) * 3 = q * 3 + 3 by omega, show q * 3 + 3 + 2 = q * 3 + 2 + 3 by omega]
    show z.enc ++ ((wcells M).set (q * 3) a).set (q * 3 + 2) b = z.enc ++ wcells (M.set q y)
    rw [ih]
/-- What the law's own memory holds: the header, the rewrites (a copy), the filters. -/
def RWst (h : HeaderV) (g ci n : Nat) (M : List RewV) (v : Value) (Fs : List FiltV) (w : World) (W : World) : Prop :=
  W.heap[w.heap.size]? = some (.cells #[.int .u32 h.src, .int .u32 h.dst, .int .u8 h.proto, .int .u16 h.sp, .int .u16 h.dp] 45 (0, 0)) ∧ W.ownsRow (w.heap.size + 1) 77 3 (.slice (some ⟨g, 0, none⟩) n ci) n (wcells M) ∧ FsAt W w.heap.size v Fs ∧ Below w.heap.size w W ∧ M.length = n
section
variable {h : HeaderV} {g ci n : Nat} {M : List RewV} {v : Value} {Fs : List FiltV} {w W W' : World}
theorem RWst.next (s : RWst h g ci n M v Fs w W) (hb : Below W.heap.size W W') : RWst h g ci n M v Fs w W' := by
  obtain ⟨h1, h2, h3, h4, h5⟩ := s
  exact ⟨blk_below hb h1, owns_kept_none h2 (only_of_below hb none), h3.below (hb.mono h4.size), h4.trans (hb.mono h4.size), h5⟩
theorem RWst.rd (s : RWst h g ci n M v Fs w W) : Rd W W.heap.size 3 (.slice (some ⟨g, 0, none⟩) n ci) M.length (wcells M) := by
  have := Rd.of_own s.2.1
  rw [s.2.2.2.2]; exact this
theorem RWst.fs (s : RWst h g ci n M v Fs w W) : FsAt W W.heap.size v Fs := s.2.2.1.mono s.2.2.2.1.size
theorem RWst.hd (s : RWst h g ci n M v Fs w W) : W.cell? ⟨w.heap.size, 0, none⟩ = some (.int .u32 h.src) ∧ W.cell? ⟨w.heap.size, 1, none⟩ = some (.int .u32 h.dst) ∧ W.cell? ⟨w.heap.size, 2, none⟩ = some (.int .u8 h.proto) ∧ W.cell? ⟨w.heap.size, 3, none⟩ = some (.int .u16 h.sp) ∧ W.cell? ⟨w.heap.size, 4, none⟩ = some (.int .u16 h.dp) :=
  ⟨cell_of_row W w.heap.size 0 _ _ (0, 0) s.1, cell_of_row W w.heap.size 1 _ _ (0, 0) s.1, cell_of_row W w.heap.size 2 _ _ (0, 0) s.1, cell_of_row W w.heap.size 3 _ _ (0, 0) s.1, cell_of_row W w.heap.size 4 _ _ (0, 0) s.1⟩
theorem RWst.bel (s : RWst h g ci n M v Fs w W) : Below w.heap.size w W := s.2.2.2.1
end

set_option maxRecDepth 100000 in
set_option maxHeartbeats 4000000 in
theorem lawRW_any (l : List RewV) (vl : Value) (Fs : List FiltV) (v : Value) (dest : Bool) (h : HeaderV) (at' : Int) (w : World) (hl : Rd w w.heap.size 3 vl l.length (wcells l)) (hF : FsAt w w.heap.size v Fs) (hlen : Fs.length ≤ 9223372036854775807) (hbig : l.length * 32 ≤ 140737488355328) :
    Calls Try.prog 6 #[vl, v, .bool dest, .agg #[.int .u32 h.src, .int .u32 h.dst, .int .u8 h.proto, .int .u16 h.sp, .int .u16 h.dp], .int .i64 at'] w fun e w' => e = .returned (.bool true) ∧ Below w.heap.size w w' := by
  obtain ⟨i0, hi, hz0, hz1, hz2⟩ := info_parts Try.infoRew
  obtain ⟨Af, cf, rfl, hcf⟩ := hF.1.form
  obtain ⟨Al, cl, rfl, hcl⟩ := hl.form
  have HF := Lib.hid hF
  have HL := Lib.hid hl
  clear hF hl
  go_enter Try.func6, Try.ntmps6
  go_upto_region 1 with fail
  go_cut [11] (fun s11 wx => ∃ g ci, s11 = .slice (some ⟨g, 0, none⟩) l.length ci ∧ RWst h g ci l.length l (.slice Af Fs.length cf) Fs w wx)
  case first =>
    have hW := below1 w (.cells #[.int .u32 h.src, .int .u32 h.dst, .int .u8 h.proto, .int .u16 h.sp, .int .u16 h.dp] 45)
    have K0 := Lib.hid (blk1 w (.cells #[.int .u32 h.src, .int .u32 h.dst, .int .u8 h.proto, .int .u16 h.sp, .int .u16 h.dp] 45))
    by_cases hn : l.length = 0
    · obtain rfl : l = [] := List.eq_nil_of_length_eq_zero hn
      have hst : RWst h (w.heap.size + 1) 0 0 [] (.slice Af Fs.length cf) Fs w ((w.alloc (.cells #[.int .u32 h.src, .int .u32 h.dst, .int .u8 h.proto, .int .u16 h.sp, .int .u16 h.dp] 45)).alloc (.cells #[] 77)) :=
        ⟨(blk2 w (.cells #[.int .u32 h.src, .int .u32 h.dst, .int .u8 h.proto, .int .u16 h.sp, .int .u16 h.dp] 45) (.cells #[] 77)).1, made_at (w.alloc (.cells #[.int .u32 h.src, .int .u32 h.dst, .int .u8 h.proto, .int .u16 h.sp, .int .u16 h.dp] 45)) (w.heap.size + 1) 77 3 (by simp), (HF.out.below (below2 w _ _)), below2 w _ _, rfl⟩
      have HST := Lib.hid hst
      clear hst
      rcases Al with _ | ad
      all_goals (
        go_wp2
        go_meet
        exact ⟨_, _, rfl, HST.out⟩)
    · obtain ⟨b, off, c', hv, _, hbB, hcell⟩ := HL.out.pos (by omega)
      injection hv with hv1 _ hv3
      subst hv1 hv3
      go_wp2_with (at_builtin; refine wpList_append_own _ rfl _ _ 69 rfl (w.heap.size + 1) 77 i0 _ 3 32 Try.underlying69 hi hz0 hz1 hz2 rfl (by decide) _ _ _ rfl (made_at (w.alloc (.cells #[.int .u32 h.src, .int .u32 h.dst, .int .u8 h.proto, .int .u16 h.sp, .int .u16 h.dp] 45)) (w.heap.size + 1) 77 3 (by simp)) ⟨b, off, none⟩ l.length cl (wcells l) rfl ?c1 ?c2 ?c3 ?c4 ?c5 ?c6 ?_)
      case c1 => exact flat_len RewV.enc 3 rew_len l
      case c2 => exact hcell
      case c3 => exact wcells_one l
      case c4 => unfold maxLen; omega
      intro v1 w1 hown hg hnil
      obtain ⟨A1, c1, rfl, hA1⟩ := owns_form hown
      obtain ⟨g1, rfl⟩ := hA1 (by omega)
      have hb1 : Below w.heap.size w w1 := (below2 w _ _).grown hg (by simp; omega) (fun k hk => by simp [Value.ownBlock] at hk; omega)
      have hst : RWst h g1 c1 l.length l (.slice Af Fs.length cf) Fs w w1 := ⟨(hg.block w.heap.size (by simp; omega) (by simp [Value.ownBlock])).trans (blk2 w (.cells #[.int .u32 h.src, .int .u32 h.dst, .int .u8 h.proto, .int .u16 h.sp, .int .u16 h.dp] 45) (.cells #[] 77)).1, hown, HF.out.below hb1, hb1, rfl⟩
      have HST := Lib.hid hst
      clear hst hown hg hb1
      go_wp2
      go_meet
      exact ⟨_, _, rfl, HST.out⟩
  case rest =>
    obtain ⟨g, ci, hs11, hst⟩ := hcut
    subst hs11
    have HF2 := Lib.hid HF.out
    clear HF HL
    go_wp2
    go_loopw [12] (fun i wr => ∃ (k : Nat) (M : List RewV), i = .int .i64 k ∧ k ≤ 2 ∧ RWst h g ci l.length M (.slice Af Fs.length cf) Fs w wr) (fun i _ => 2 - (intOf i).toNat)
    case atStart => exact ⟨0, l, rfl, by omega, hst⟩
    case round =>
      obtain ⟨k, M, rfl, hk, st⟩ := hrel
      by_cases hk2 : k < 2
      · have hI : (k : Int) < 2 := by omega
        have hML := st.2.2.2.2
        go_wp2_with (at_builtin; refine wpList_append_own _ rfl _ _ 69 rfl wr.heap.size 77 i0 _ 3 32 Try.underlying69 hi hz0 hz1 hz2 rfl (by decide) _ _ _ rfl (made_at wr wr.heap.size 77 3 rfl) ⟨g, 0, none⟩ l.length ci (wcells M) rfl ?d1 ?d2 ?d3 ?d4 ?d5 ?d6 ?_)
        case d1 => rw [← hML]; exact flat_len RewV.enc 3 rew_len M
        case d2 => exact (st.2.1.alloc _).cells rfl
        case d3 => exact wcells_one M
        case d4 => unfold maxLen; omega
        case d5 => omega
        case d6 => simp
        intro v2 w1 hown0 hg hnil
        have hown : w1.ownsRow wr.heap.size 77 3 v2 l.length (wcells M) := by simpa using hown0
        clear hown0 hnil
        obtain ⟨A2, c2, rfl, _⟩ := owns_form hown
        have hb1 : Below wr.heap.size wr w1 := (below1 wr _).grown hg (by simp) (fun k hk => by simp [Value.ownBlock] at hk; omega)
        have st1 := st.next hb1
        have rd1 : Rd w1 w1.heap.size 3 (.slice A2 l.length c2) M.length (wcells M) := by rw [hML]; exact Rd.of_own hown
        clear hown hg hb1
        obtain ⟨x0, x1, x2, x3, x4⟩ := st1.hd
        go_wp2_with fail
        refine (rwFirst_any M _ Fs _ dest h _ st1.rd st1.fs hlen).mono ?_
        rintro e w2 ⟨rfl, hb⟩
        have st2 := st1.next hb
        have rd2 := (rd1.below hb).mono hb.size
        clear x0 x1 x2 x3 x4 st1 rd1 hb 
        obtain ⟨x0, x1, x2, x3, x4⟩ := st2.hd
        go_wp2_with fail
        refine (refRwFirst_any M _ Fs _ dest h _ rd2 st2.fs hlen).mono ?_
        rintro e w3 ⟨rfl, hb⟩
        have st3 := st2.next hb
        have rd3 := (rd2.below hb).mono hb.size
        clear x0 x1 x2 x3 x4 st2 rd2 hb 
        obtain ⟨x0, x1, x2, x3, x4⟩ := st3.hd
        go_wp2_with fail
        refine (rwApply_any M _ Fs _ dest h _ st3.rd st3.fs hlen).mono ?_
        rintro e w4 ⟨rfl, hb⟩
        have st4 := st3.next hb
        have rd4 := (rd3.below hb).mono hb.size
        clear x0 x1 x2 x3 x4 st3 rd3 hb 
        obtain ⟨x0, x1, x2, x3, x4⟩ := st4.hd
        have hb := below1 w4 (.cells #[.int .u32 (apH Fs M dest h).src, .int .u32 (apH Fs M dest h).dst, .int .u8 (apH Fs M dest h).proto, .int .u16 (apH Fs M dest h).sp, .int .u16 (apH Fs M dest h).dp] 45)
        have ka5 := blk1 w4 (.cells #[.int .u32 (apH Fs M dest h).src, .int .u32 (apH Fs M dest h).dst, .int .u8 (apH Fs M dest h).proto, .int .u16 (apH Fs M dest h).sp, .int .u16 (apH Fs M dest h).dp] 45)
        have st5 := st4.next hb
        have rd5 := (rd4.below hb).mono hb.size
        clear x0 x1 x2 x3 x4 st4 rd4 hb 
        obtain ⟨x0, x1, x2, x3, x4⟩ := st5.hd
        go_wp2_with fail
        refine (refRwApply_any M _ Fs _ dest h _ rd5 st5.fs hlen).mono ?_
        rintro e w6 ⟨rfl, hb⟩
        have st6 := st5.next hb
        have rd6 := (rd5.below hb).mono hb.size
        have ka6 := blk_below hb ka5
        clear x0 x1 x2 x3 x4 st5 rd5 hb ka5
        obtain ⟨x0, x1, x2, x3, x4⟩ := st6.hd
        have hb := below1 w6 (.cells #[.int .u32 (apH Fs M dest h).src, .int .u32 (apH Fs M dest h).dst, .int .u8 (apH Fs M dest h).proto, .int .u16 (apH Fs M dest h).sp, .int .u16 (apH Fs M dest h).dp] 45)
        have kb7 := blk1 w6 (.cells #[.int .u32 (apH Fs M dest h).src, .int .u32 (apH Fs M dest h).dst, .int .u8 (apH Fs M dest h).proto, .int .u16 (apH Fs M dest h).sp, .int .u16 (apH Fs M dest h).dp] 45)
        have st7 := st6.next hb
        have rd7 := (rd6.below hb).mono hb.size
        have ka7 := blk_below hb ka6
        clear x0 x1 x2 x3 x4 st6 rd6 hb ka6
        obtain ⟨x0, x1, x2, x3, x4⟩ := st7.hd
        have lk := lt_of_block ka7
        obtain ⟨y0, y1, y2, y3, y4, _⟩ := five_cells ka7
        go_wp2_with fail
        refine (rwCheck_any M _ Fs _ _ st7.rd st7.fs hlen).mono ?_
        rintro e w8 ⟨rfl, hb⟩
        clear y0 y1 y2 y3 y4 lk
        have st8 := st7.next hb
        have rd8 := (rd7.below hb).mono hb.size
        have ka8 := blk_below hb ka7
        have kb8 := blk_below hb kb7
        clear x0 x1 x2 x3 x4 st7 rd7 hb ka7 kb7
        obtain ⟨x0, x1, x2, x3, x4⟩ := st8.hd
        go_wp2_with fail
        refine (refRwCheck_any M _ Fs _ _ rd8 st8.fs hlen).mono ?_
        rintro e w9 ⟨rfl, hb⟩
        have st9 := st8.next hb
        have rd9 := (rd8.below hb).mono hb.size
        have ka9 := blk_below hb ka8
        have kb9 := blk_below hb kb8
        clear x0 x1 x2 x3 x4 st8 rd8 hb ka8 kb8
        obtain ⟨x0, x1, x2, x3, x4⟩ := st9.hd
        obtain ⟨y0, y1, y2, y3, y4, _⟩ := five_cells ka9
        obtain ⟨z0, z1, z2, z3, z4, _⟩ := five_cells kb9
        go_wp2_with fail
        refine (hsame_any (apH Fs M dest h) _).mono ?_
        rintro e w10 ⟨rfl, hb⟩
        clear y0 y1 y2 y3 y4 z0 z1 z2 z3 z4
        have st10 := st9.next hb
        have rd10 := (rd9.below hb).mono hb.size
        clear x0 x1 x2 x3 x4 st9 rd9 ka9 kb9 hb
        go_wp2_with fail
        go_loopw [22] (fun i wr => ∃ j : Nat, i = .int .i64 j ∧ j ≤ l.length ∧ Below w10.heap.size w10 wr) (fun i _ => l.length - (intOf i).toNat)
        case atStart => exact ⟨0, rfl, by omega, Below.refl _ _⟩
        case round =>
          obtain ⟨j, rfl, hj, hnx⟩ := hrel
          have st := st10.next hnx
          have rd := (rd10.below hnx).mono hnx.size
          by_cases hlt : j < l.length
          · have hI : (j : Int) < (l.length : Int) := by omega
            obtain ⟨x, hx⟩ : ∃ x, M[j]? = some x := ⟨_, List.getElem?_eq_getElem (by omega)⟩
            obtain ⟨b1, o1, d1, hv1, _, _, hcell1⟩ := st.rd.posAt (by omega)
            injection hv1 with hv1a hv1b hv1c
            injection hv1a with hv1a
            injection hv1a with hv1a hv1d
            subst hv1a hv1d hv1c
            have f0 : wr.cell? ⟨g, j * 3, none⟩ = some (.bool x.dest) := by have := hcell1 j 0 _ (wcell hx rfl); simpa using this
            have f1 : wr.cell? ⟨g, j * 3 + 1, none⟩ = some (.string x.nm) := by have := hcell1 j 1 _ (wcell hx rfl); simpa using this
            have f2 : wr.cell? ⟨g, j * 3 + 2, none⟩ = some (.int .u32 x.too) := by have := hcell1 j 2 _ (wcell hx rfl); simpa using this
            obtain ⟨b2, o2, d2, hv2, _, _, hcell2⟩ := rd.posAt (by omega)
            injection hv2 with hv2a hv2b hv2c
            subst hv2a hv2c
            have g0 : wr.cell? ⟨b2, o2 + j * 3, none⟩ = some (.bool x.dest) := hcell2 j 0 _ (wcell hx rfl)
            have g1 : wr.cell? ⟨b2, o2 + j * 3 + 1, none⟩ = some (.string x.nm) := hcell2 j 1 _ (wcell hx rfl)
            have g2 : wr.cell? ⟨b2, o2 + j * 3 + 2, none⟩ = some (.int .u32 x.too) := hcell2 j 2 _ (wcell hx rfl)
            have F0 := cell_regrown f0
            have F1 := cell_regrown f1
            have F2 := cell_regrown f2
            have G0 := cell_regrown g0
            have G1 := cell_regrown g1
            have G2 := cell_regrown g2
            clear hx hcell1 hcell2 hv1b hv2b f0 f1 f2 g0 g1 g2 st rd
            go_wp2
            refine wp_region_quiet_below (by kernel_rfl) (by kernel_rfl) ?_
            repeat (first | go_big_quiet_step (fail) | quiet_step (fail))
            refine wpQuiet_nil ?_
            intro _ hw'
            obtain ⟨⟨nq, osq⟩, hw''⟩ := hw'
            subst hw''
            go_wp2
            refine ⟨⟨j + 1, by go_num, by omega, hnx.trans ((below_regrown wr nq osq).mono hnx.size)⟩, by simp only [intOf]; omega⟩
          · by_cases ha0 : 0 ≤ at'
            · by_cases ha1 : at' < (l.length : Int)
              · obtain ⟨q, rfl⟩ := Int.eq_ofNat_of_zero_le ha0
                have hq : q < M.length := by omega
                obtain ⟨x, hx⟩ : ∃ x, M[q]? = some x := ⟨_, List.getElem?_eq_getElem hq⟩
                have own := st.2.1
                have e0 : wr.cell? ⟨g, q * 3, none⟩ = some (.bool x.dest) := (own.cellAt (q * 3) (by omega)).trans (wcell (i := 0) hx rfl)
                have e2 : wr.cell? ⟨g, q * 3 + 2, none⟩ = some (.int .u32 x.too) := (own.cellAt (q * 3 + 2) (by omega)).trans (wcell (i := 2) hx rfl)
                have z0 := own.frozenAt (q * 3)
                have z2 := own.frozenAt (q * 3 + 2)
                go_wp2
                have s1 := (own.stored (q * 3) (.bool !x.dest))
                have s2 := (s1.1.stored (q * 3 + 2) (.int .u32 ((x.too + 1) % 4294967296)))
                have hbs : Below w.heap.size w ((wr.setCell ⟨g, q * 3, none⟩ (.bool !x.dest)).setCell ⟨g, q * 3 + 2, none⟩ (.int .u32 ((x.too + 1) % 4294967296))) := (st.bel.setCell (p := ⟨g, q * 3, none⟩) (by have := (own.lt g rfl).1; simp; omega) _).setCell (p := ⟨g, q * 3 + 2, none⟩) (by have := (own.lt g rfl).1; simp; omega) _
                have hgg := (own.lt g rfl).1
                rw [wcells_set M q x (.bool !x.dest) (.int .u32 ((x.too + 1) % 4294967296)) ⟨!x.dest, x.nm, (x.too + 1) % 4294967296, by omega⟩ hx rfl] at s2
                exact ⟨⟨k + 1, _, by go_num, by omega, (set_far (set_far st.1 (by simp; omega)) (by simp; omega)), s2.1, (HF2.out.below hbs), hbs, by simp; exact st.2.2.2.2⟩, by simp only [intOf]; omega⟩
              · go_wp2
                exact ⟨⟨k + 1, M, by go_num, by omega, st⟩, by simp only [intOf]; omega⟩
            · go_wp2
              exact ⟨⟨k + 1, M, by go_num, by omega, st⟩, by simp only [intOf]; omega⟩
      · have hI : ¬ (k : Int) < 2 := by omega
        go_wp2
        go_ret
        exact ⟨rfl, st.bel⟩

end Go.Proofs.Ytpljnogmfeenkaa

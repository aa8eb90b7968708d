/-
  The walk of the law SpansTruths (written by wip/gen/gensptruths.py).
-/
import Derived.Test.YtpljnogmfeenkaaSpAsks
import Derived.Test.YtpljnogmfeenkaaSp14
import Derived.Test.YtpljnogmfeenkaaSpMath5
namespace Go.Proofs.Ytpljnogmfeenkaa
open Go Go.RowKit Go.Lib Go.Sort

set_option maxRecDepth 100000 in
set_option maxHeartbeats 8000000 in
theorem lawTruths_any (L M : List SpanV) (vl vm : Value) (most x : Int) (w : World) (hl : Rd w w.heap.size 2 vl L.length (scells L)) (hm' : Rd w w.heap.size 2 vm M.length (scells M)) (nilL : NilOk vl) (nilM : NilOk vm) (hm : 0 ≤ most ∧ most < 4294967296) (hx0 : 0 ≤ x) :
    Calls Try.prog 12 #[vl, vm, .int .u32 most, .int .u32 x] w fun e w' => e = .returned (.bool true) ∧ Below w.heap.size w w' := by
  obtain ⟨Al, cl, rfl, _⟩ := hl.form
  obtain ⟨Am, cm, rfl, _⟩ := hm'.form
  have HL := Lib.hid hl
  have HM := Lib.hid hm'
  clear hl hm'
  cases hlg : largeB L M with
  | true =>
    have hla := large_any L M Al Am cl cm w
    rw [hlg] at hla
    go_enter Try.func12, Try.ntmps12
    go_wp2_with fail
    refine hla.mono ?_
    rintro e w1 ⟨rfl, rfl⟩
    clear hla
    go_wp2_with fail
    refine (awake02_any w).mono ?_
    rintro e w1 ⟨rfl, hb⟩
    go_wp2
    go_ret
    exact ⟨rfl, hb⟩
  | false =>
    have hla := large_any L M Al Am cl cm w
    rw [hlg] at hla
    obtain ⟨h1, h2⟩ := largeB_no hlg
    have hFl := formOf_len L
    have l1 := or_len L M
    have l2 : (theSet (andP L M)).length ≤ 200 * 200 := Nat.le_trans (and_len L M) (Nat.mul_le_mul h1 h2)
    have l3 : (theSet (lessP' L M)).length ≤ 200 * 201 := Nat.le_trans (less_len L M) (Nat.mul_le_mul h1 (by omega))
    have l4 := notS_len hm L
    have l5 : (theSet (andP L [upto most hm])).length ≤ 200 * 1 := Nat.le_trans (and_len L [upto most hm]) (Nat.mul_le_mul h1 (by simp))
    have l6 := or_len (theSet (andP L [upto most hm])) (theSet (notP most L))
    have k1 := (formOf_ok L).2 x
    have k2 := (real_or L M).ok.2 x
    have k3 := (real_and L M).ok.2 x
    have k4 := (real_less L M).ok.2 x
    have k5 := (real_not hm L).ok.2 x
    have k6 := low_count most hm L
    have HLA := Lib.hid hla
    clear hla hlg
    unfold orP at k2
    unfold andP at k3
    unfold lessP' at k4
    unfold notP at k5
    change hasB (theSet (orP L M)) x = _ at k2
    change hasB (theSet (andP L M)) x = _ at k3
    change hasB (theSet (lessP' L M)) x = _ at k4
    change hasB (theSet (notP most L)) x = _ at k5
    by_cases hxm : x ≤ most
    all_goals (
      cases hP : hasB L x <;> cases hQ : hasB M x
      all_goals (
        simp [hP, hQ, hx0, hxm] at k1 k2 k3 k4 k5
        have k7 : (cnt (theSet (andP L [upto most hm])) + cnt (theSet (notP most L))) % 18446744073709551616 = most + 1 := by omega
        clear k6
        go_enter Try.func12, Try.ntmps12
        go_wp2_with fail
        refine HLA.out.mono ?_
        rintro e w' ⟨rfl, rfl⟩
        go_wp2_with fail
        refine (awake02_any w).mono ?_
        rintro e w1 ⟨rfl, hb1⟩
        have hbw1 := below_call (Below.refl w.heap.size w) hb1
        go_wp2_with fail
        refine (refHas_any L (.slice Al L.length cl) x w1 ((HL.out.below hbw1).mono hbw1.size) (by omega)).mono ?_
        rintro e w' ⟨rfl, rfl⟩
        go_wp2_with fail
        refine (refHas_any M (.slice Am M.length cm) x w1 ((HM.out.below hbw1).mono hbw1.size) (by omega)).mono ?_
        rintro e w' ⟨rfl, rfl⟩
        go_wp2_with fail
        refine (has_any L (.slice Al L.length cl) x w1 ((HL.out.below hbw1).mono hbw1.size) (by omega)).mono ?_
        rintro e w2 ⟨rfl, hb2⟩
        have hbw2 := below_call hbw1 hb2
        go_wp2_with fail
        refine (form_any L (.slice Al L.length cl) w2 ((HL.out.below hbw2).mono hbw2.size) (by omega)).mono ?_
        rintro e w3 ⟨v3, rfl, hown3, hb3⟩
        have hbw3 := below_call hbw2 hb3
        have hr3 : Rd w3 w3.heap.size 2 v3 (formOf L).length (scells (formOf L)) := Rd.of_own hown3
        go_wp2_with fail
        refine (has_any (formOf L) v3 x w3 hr3 (by omega)).mono ?_
        rintro e w4 ⟨rfl, hb4⟩
        have hbw4 := below_call hbw3 hb4
        go_wp2_with fail
        refine ((or_any L M (.slice Al L.length cl) (.slice Am M.length cm) w4 ((HL.out.below hbw4).mono hbw4.size) ((HM.out.below hbw4).mono hbw4.size) nilL nilM (by omega) (by omega) : Calls _ _ _ _ (SetRes (theSet (orP L M)) w4))).mono ?_
        rintro e w5 ⟨v5, rfl, hown5, hb5⟩
        have hbw5 := below_call hbw4 hb5
        have hr5 : Rd w5 w5.heap.size 2 v5 (theSet (orP L M)).length (scells (theSet (orP L M))) := Rd.of_own hown5
        go_wp2_with fail
        refine (has_any (theSet (orP L M)) v5 x w5 hr5 (by omega)).mono ?_
        rintro e w6 ⟨rfl, hb6⟩
        have hbw6 := below_call hbw5 hb6
        go_wp2_with fail
        refine ((and_any L M (.slice Al L.length cl) (.slice Am M.length cm) w6 ((HL.out.below hbw6).mono hbw6.size) ((HM.out.below hbw6).mono hbw6.size) (by omega) (by omega) : Calls _ _ _ _ (SetRes (theSet (andP L M)) w6))).mono ?_
        rintro e w7 ⟨v7, rfl, hown7, hb7⟩
        have hbw7 := below_call hbw6 hb7
        have hr7 : Rd w7 w7.heap.size 2 v7 (theSet (andP L M)).length (scells (theSet (andP L M))) := Rd.of_own hown7
        go_wp2_with fail
        refine (has_any (theSet (andP L M)) v7 x w7 hr7 (by omega)).mono ?_
        rintro e w8 ⟨rfl, hb8⟩
        have hbw8 := below_call hbw7 hb8
        go_wp2_with fail
        refine ((less_any L M (.slice Al L.length cl) (.slice Am M.length cm) w8 ((HL.out.below hbw8).mono hbw8.size) ((HM.out.below hbw8).mono hbw8.size) (by omega) (by omega) : Calls _ _ _ _ (SetRes (theSet (lessP' L M)) w8))).mono ?_
        rintro e w9 ⟨v9, rfl, hown9, hb9⟩
        have hbw9 := below_call hbw8 hb9
        have hr9 : Rd w9 w9.heap.size 2 v9 (theSet (lessP' L M)).length (scells (theSet (lessP' L M))) := Rd.of_own hown9
        go_wp2_with fail
        refine (has_any (theSet (lessP' L M)) v9 x w9 hr9 (by omega)).mono ?_
        rintro e w10 ⟨rfl, hb10⟩
        have hbw10 := below_call hbw9 hb10
        go_wp2_with fail
        refine (not_any L (.slice Al L.length cl) most w10 ((HL.out.below hbw10).mono hbw10.size) (by omega) hm).mono ?_
        rintro e w11 ⟨v11, rfl, hown11, hb11⟩
        have hbw11 := below_call hbw10 hb11
        have hr11 : Rd w11 w11.heap.size 2 v11 (theSet (notP most L)).length (scells (theSet (notP most L))) := Rd.of_own hown11
        have hN11 := hr11
        obtain ⟨An, cn, hvn, _⟩ := hr11.form
        have nilN := NilOk.of_own hown11
        subst hvn
        go_wp2_with fail
        refine (has_any (theSet (notP most L)) _ x w11 hr11 (by omega)).mono ?_
        rintro e w12 ⟨rfl, hb12⟩
        have hbw12 := below_call hbw11 hb12
        have hbn12 := hb12
        go_wp2_with fail
        have hand : Calls Try.prog 84 #[(.slice Al L.length cl), .slice An (theSet (notP most L)).length cn] w12 (SetRes (theSet (andP L (theSet (notP most L)))) w12) := and_any L (theSet (notP most L)) (.slice Al L.length cl) _ w12 ((HL.out.below hbw12).mono hbw12.size) ((hr11.below hbn12).mono hbn12.size) (by omega) (by omega)
        rw [and_not most hm L] at hand
        refine hand.mono ?_
        rintro e w13 ⟨v13, rfl, hown13, hb13⟩
        have hbw13 := below_call hbw12 hb13
        obtain ⟨Az, cz, rfl, _⟩ := owns_form hown13
        clear hand
        have hbn13 := below_call hbn12 hb13
        have hba13 := below1 w13 (.cells #[.int .u32 0, .int .u32 most] 37)
        have hbl := below_call hbw13 hba13
        have hbnl := below_call hbn13 hba13
        have hlit : Rd (w13.alloc (.cells #[.int .u32 0, .int .u32 most] 37)) (w13.alloc (.cells #[.int .u32 0, .int .u32 most] 37)).heap.size 2 (.slice (some ⟨w13.heap.size, 0, none⟩) 1 1) [upto most hm].length (scells [upto most hm]) := Rd.of_blk (cs := #[.int .u32 0, .int .u32 most]) (blk1 w13 _) (by decide) rfl
        go_wp2_with fail
        have hlow : Calls Try.prog 84 #[(.slice Al L.length cl), .slice (some ⟨w13.heap.size, 0, none⟩) 1 1] (w13.alloc (.cells #[.int .u32 0, .int .u32 most] 37)) (SetRes (theSet (andP L [upto most hm])) (w13.alloc (.cells #[.int .u32 0, .int .u32 most] 37))) := and_any L [upto most hm] (.slice Al L.length cl) _ _ ((HL.out.below hbl).mono hbl.size) hlit (by omega) (by simp)
        refine hlow.mono ?_
        rintro e w14 ⟨v14, rfl, hown14, hb14⟩
        have hbw14 := below_call hbl hb14
        have hbn14 := below_call hbnl hb14
        clear hlow hlit hbl hbnl
        have hr14 : Rd w14 w14.heap.size 2 v14 (theSet (andP L [upto most hm])).length (scells (theSet (andP L [upto most hm]))) := Rd.of_own hown14
        have nil14 := NilOk.of_own hown14
        obtain ⟨Al2, cl2, rfl, _⟩ := hr14.form
        go_wp2_with fail
        refine (count_any (theSet (andP L [upto most hm])) _ w14 hr14 (by omega)).mono ?_
        rintro e w15 ⟨rfl, hb15⟩
        have hbw15 := below_call hbw14 hb15
        have hbn15 := below_call hbn14 hb15
        have hbq15 := hb15
        go_wp2_with fail
        refine (count_any (theSet (notP most L)) _ w15 ((hr11.below hbn15).mono hbn15.size) (by omega)).mono ?_
        rintro e w16 ⟨rfl, hb16⟩
        have hbw16 := below_call hbw15 hb16
        have hbn16 := below_call hbn15 hb16
        have hbq16 := below_call hbq15 hb16
        rw [formOf_set (real_and L [upto most hm]), formOf_set (real_not hm L)]
        generalize cnt (theSet (andP L [upto most hm])) = na at *
        generalize cnt (theSet (notP most L)) = nb at *
        have hor2 : Calls Try.prog 83 #[.slice Al2 (theSet (andP L [upto most hm])).length cl2, .slice An (theSet (notP most L)).length cn] w16 (SetRes (theSet (orP (theSet (andP L [upto most hm])) (theSet (notP most L)))) w16) := or_any _ _ _ _ _ ((hr14.below hbq16).mono hbq16.size) ((hr11.below hbn16).mono hbn16.size) nil14 nilN (by omega) (by omega)
        go_wp2_with fail
        refine hor2.mono ?_
        rintro e w17 ⟨v17, rfl, hown17, hb17⟩
        have hbw17 := below_call hbw16 hb17
        clear hor2
        have hr17 : Rd w17 w17.heap.size 2 v17 (theSet (orP (theSet (andP L [upto most hm])) (theSet (notP most L)))).length (scells (theSet (orP (theSet (andP L [upto most hm])) (theSet (notP most L))))) := Rd.of_own hown17
        have hba2 := below1 w17 (.cells #[.int .u32 0, .int .u32 most] 37)
        have hbl2 := below_call hbw17 hba2
        have hlit2 : Rd (w17.alloc (.cells #[.int .u32 0, .int .u32 most] 37)) (w17.alloc (.cells #[.int .u32 0, .int .u32 most] 37)).heap.size 2 (.slice (some ⟨w17.heap.size, 0, none⟩) 1 1) [upto most hm].length (scells [upto most hm]) := Rd.of_blk (cs := #[.int .u32 0, .int .u32 most]) (blk1 w17 _) (by decide) rfl
        have hsame := same_any (theSet (orP (theSet (andP L [upto most hm])) (theSet (notP most L)))) [upto most hm] v17 _ (w17.alloc (.cells #[.int .u32 0, .int .u32 most] 37)) ((hr17.below hba2).mono hba2.size) hlit2 (by omega) (by simp)
        rw [low_same most hm L, eqB_self] at hsame
        go_wp2_with fail
        refine hsame.mono ?_
        rintro e w18 ⟨rfl, hb18⟩
        have hbw18 := below_call hbl2 hb18
        go_wp2
        go_ret
        exact ⟨rfl, hbw18⟩))

end Go.Proofs.Ytpljnogmfeenkaa

/- Walk of the law VectorsRemoved: it answers true. -/
import Derived.Test.YtedpnjbbcfiheaaGreatDoorZ0
import Derived.Test.YtedpnjbbcfiheaaGreatDoorW23
import Derived.Test.YtedpnjbbcfiheaaGreatDoorY7
import Derived.Test.YtedpnjbbcfiheaaGreatDoorP4
set_option linter.unusedVariables false
namespace Go.Proofs.YtedpnjbbcfiheaaGreatDoor
open Go.RowKit Go.Sc Go.Sort
set_option maxRecDepth 100000 in
set_option maxHeartbeats 2000000 in
theorem VectorsRemoved_any (A : Option Addr) (c : Nat) (xs : List Int) (w : World) (ha : ArgI w A c xs) :
    Calls Tryz.prog 3 #[.slice A xs.length c] w fun e w' => e = .returned (.bool true) ∧ Below w.heap.size w w' := by
  have hst := strm_start ha
  have hg0 : w.grownBy (w.alloc (.cells #[.slice A xs.length c, .int .i64 0] TS)) (some w.heap.size) := World.grownBy_alloc w _ _
  go_enter Tryz.func3, Tryz.ntmps3
  go_wp2_with fail
  refine (ATest_any w.heap.size xs 0 _ hst (by omega)).mono ?_
  rintro e w1 ⟨v1, rfl, hown1, hs1, hg1⟩
  have hgw1 := World.grownBy.trans' hg0 hg1
  obtain ⟨en0, en1⟩ := atest_end xs 0 (by omega)
  have hsz := atest_size xs 0
  have hln := atest_len xs 0
  generalize (atest xs 0).1 = ss at *
  generalize (atest xs 0).2 = b at *
  rw [World.size_alloc] at hown1
  obtain ⟨A1, c1, rfl, _, _, _, _⟩ := Rd.of_own hown1
  have HSZ : Hid (szOk ss) := fun s hs => Nat.le_trans (hsz s hs) (by omega)
  clear hsz hst hg0 hg1
  go_wp2_with fail
  refine (FaultList_any w.heap.size xs b ss.length _ hs1 (by omega) (by omega) (by omega)).mono ?_
  rintro e w2 ⟨v2, rfl, hof2, hs2, hg2⟩
  have hfl : (flist xs b ss.length).1.length ≤ 6 := by
    unfold flist
    rw [flL_len]
    have := nx_lt xs b 7 (by omega)
    have := nx_lo xs b 7
    omega
  have hbel := below_gb (World.grownBy.trans' hgw1 hg2)
  have hrd := Rd.of_own (own_strm hown1 hg2 (by omega))
  have hrf := hof2.rdf
  generalize (flist xs b ss.length).1 = fs at *
  have HR := Lib.hid hrd
  have HF := Lib.hid hrf
  clear hof2 hs2 hg2 hgw1 hs1 hown1 hrd ha
  obtain ⟨A2, c2, rfl, _, _, _⟩ := hrf
  by_cases h0 : lfault ss fs = 0
  · obtain ⟨t0, fl, fo⟩ := lfault_ok h0
    obtain ⟨l1, l2, hok, hz⟩ := tfault_ok t0
    have hs64 := head_ok (by omega) hok
    have HFO : Hid (∀ f ∈ fs, FOk ss.length f.1 f.2) := fun f hf => FOk_of (fo f hf)
    have H0 := Lib.hid h0
    have HOK := Lib.hid hok
    have HZ := Lib.hid hz
    have HL1 := Lib.hid (law_needed h0 hs64)
    have HL2 := Lib.hid (law_reduced h0 hs64)
    have HL3 := Lib.hid (law_smallest h0 hs64)
    have HX := Lib.hid (show (lfault ss fs = 0) from h0)
    clear h0 t0 fo hok hz
    have HN := Lib.hid (Needed_ok _ _ ss _ fs w2 HR.out HSZ.out HF.out H0.out)
    generalize hzz : (ss.headD ByteArray.empty).size = z at *
    have HZZ := Lib.hid hzz
    clear hzz
    go_wp2_with fail
    refine HN.out.mono ?_
    rintro e w3 ⟨v3, rfl, hn3, hb3⟩
    have hn3' := Rd.of_own hn3
    have HRN := Lib.hid hn3'
    obtain ⟨An, cn, rfl, _, _, _, _⟩ := hn3'
    have HR3 := Lib.hid (Reduced_ok _ _ ss _ fs w3 (HR.out.below hb3) HSZ.out (HF.out.below hb3) H0.out)
    rw [HZZ.out] at HR3
    clear hn3
    go_wp2_with fail
    refine HR3.out.mono ?_
    rintro e w4 ⟨v4, rfl, hn4, hb4⟩
    have hn4' := Rd.of_own hn4
    have HRR := Lib.hid hn4'
    obtain ⟨Ar, cr, rfl, _, _, _, _⟩ := hn4'
    have hb24 := hb3.trans (hb4.mono hb3.size)
    clear hn4
    have hnl : (bitsL (needM (maskN ss fs)) z).length ≤ 64 := Nat.le_trans (bitsL_len _ _) hs64
    by_cases h14 : z ≤ 14
    · have HR4 := Lib.hid (Smallest_ok _ _ ss _ fs w4 (HR.out.below hb24) HSZ.out (HF.out.below hb24) H0.out (by rw [HZZ.out]; exact h14) (by omega))
      rw [HZZ.out] at HR4
      go_wp2_with fail
      refine HR4.out.mono ?_
      rintro e w5 ⟨v5, l5, rfl, hl5, hn5, hb5⟩
      have hlen5 : l5.length ≤ 64 := by rw [hl5]; exact Nat.le_trans (bitsL_len _ _) hs64
      have HL5 := Lib.hid hl5
      have hn5' := Rd.of_own hn5
      have HRS := Lib.hid hn5'
      obtain ⟨As, cs, rfl, _, _, _, _⟩ := hn5'
      have hb25 := hb24.trans (hb5.mono hb24.size)
      have HR5 := Lib.hid (listFault_any _ _ ss _ fs w5 (HR.out.below hb25) HSZ.out (HF.out.below hb25))
      rw [H0.out] at HR5
      clear hn5 hl5
      go_wp2_with fail
      refine HR5.out.mono ?_
      rintro e w6 ⟨rfl, hb6⟩
      have hb26 := hb25.trans (hb6.mono hb25.size)
      go_wp2_with fail
      refine (NeededOf_any _ _ ss.length ss fs z w6 (HR.out.below hb26) (HF.out.below hb26) HOK.out HZ.out l2 l1 hs64 HFO.out fl).mono ?_
      rintro e w7 ⟨v7, rfl, hn7, hb7⟩
      have hn7' := Rd.of_own hn7
      have HRN2 := Lib.hid hn7'
      obtain ⟨An2, cn2, rfl, _, _, _, _⟩ := hn7'
      have hb27 := hb26.trans (hb7.mono hb26.size)
      clear hn7
      go_wp2_with fail
      refine (ReducedOf_any _ _ ss.length ss fs z w7 (HR.out.below hb27) (HF.out.below hb27) HOK.out HZ.out l2 l1 hs64 HFO.out fl).mono ?_
      rintro e w8 ⟨v8, rfl, hn8, hb8⟩
      have hn8' := Rd.of_own hn8
      have HRR2 := Lib.hid hn8'
      obtain ⟨Ar2, cr2, rfl, _, _, _, _⟩ := hn8'
      have hb28 := hb27.trans (hb8.mono hb27.size)
      clear hn8
      go_wp2_with fail
      refine (SmallestOf_any _ _ ss.length ss fs z w8 (HR.out.below hb28) (HF.out.below hb28) HOK.out HZ.out l2 l1 h14 HFO.out fl).mono ?_
      rintro e w9 ⟨v9, rfl, hn9, hb9⟩
      have hn9' := Rd.of_own hn9
      have HRS2 := Lib.hid hn9'
      obtain ⟨As2, cs2, rfl, _, _, _, _⟩ := hn9'
      have hb29 := hb28.trans (hb9.mono hb28.size)
      have b39 := (hb4.trans ((hb5.trans ((hb6.trans ((hb7.trans ((hb8.trans (hb9.mono hb8.size)).mono hb7.size)).mono hb6.size)).mono hb5.size)).mono hb4.size))
      have b49 := (hb5.trans ((hb6.trans ((hb7.trans ((hb8.trans (hb9.mono hb8.size)).mono hb7.size)).mono hb6.size)).mono hb5.size))
      have b59 := (hb6.trans ((hb7.trans ((hb8.trans (hb9.mono hb8.size)).mono hb7.size)).mono hb6.size))
      have b79 := (hb8.trans (hb9.mono hb8.size))
      have HE1 := Lib.hid (EqI_same _ _ _ _ _ _ w9 (HRN.out.below b39) (HRN2.out.below b79) (by omega) HL1.out)
      have HE2 := fun W (hw : Below w9.heap.size w9 W) => EqS_same _ _ _ _ _ _ W ((HRR.out.below b49).below hw) ((HRR2.out.below hb9).below hw) (by omega) HL2.out
      have HE3 := fun W (hw : Below w9.heap.size w9 W) => EqI_same _ _ _ _ _ _ W ((HRS.out.below b59).below hw) (HRS2.out.below hw) (by omega) (HL5.out.trans HL3.out)
      have HE2' := Lib.hid HE2
      have HE3' := Lib.hid HE3
      clear HE2 HE3 hn9
      go_wp2_with fail
      refine HE1.out.mono ?_
      rintro e w10 ⟨rfl, hb10⟩
      go_wp2_with fail
      refine (HE2'.out _ hb10).mono ?_
      rintro e w11 ⟨rfl, hb11⟩
      have hb911 := hb10.trans (hb11.mono hb10.size)
      go_wp2_with fail
      refine (HE3'.out _ hb911).mono ?_
      rintro e w12 ⟨rfl, hb12⟩
      have hb912 := hb911.trans (hb12.mono hb911.size)
      go_wp2_with fail
      refine (faulted_any w12).mono ?_
      rintro e w13 ⟨rfl, hb13⟩
      have hb913 := hb912.trans (hb13.mono hb912.size)
      have hf4 := hb29.trans (hb913.mono hb29.size)
      have hf5 := hbel.trans (hf4.mono hbel.size)
      go_wp2_with fail
      go_ret
      exact ⟨rfl, hf5⟩
    · have h14' : 14 < z := by omega
      have HR4 := Lib.hid (Smallest_big _ _ ss _ fs w4 (HR.out.below hb24) HSZ.out (HF.out.below hb24) H0.out (by rw [HZZ.out]; exact h14'))
      go_wp2_with fail
      refine HR4.out.mono ?_
      rintro e w5 ⟨rfl, hb5⟩
      have hb25 := hb24.trans (hb5.mono hb24.size)
      have HR5 := Lib.hid (listFault_any _ _ ss _ fs w5 (HR.out.below hb25) HSZ.out (HF.out.below hb25))
      rw [H0.out] at HR5
      go_wp2_with fail
      refine HR5.out.mono ?_
      rintro e w6 ⟨rfl, hb6⟩
      have hb26 := hb25.trans (hb6.mono hb25.size)
      go_wp2_with fail
      refine (NeededOf_any _ _ ss.length ss fs z w6 (HR.out.below hb26) (HF.out.below hb26) HOK.out HZ.out l2 l1 hs64 HFO.out fl).mono ?_
      rintro e w7 ⟨v7, rfl, hn7, hb7⟩
      have hn7' := Rd.of_own hn7
      have HRN2 := Lib.hid hn7'
      obtain ⟨An2, cn2, rfl, _, _, _, _⟩ := hn7'
      have hb27 := hb26.trans (hb7.mono hb26.size)
      clear hn7
      go_wp2_with fail
      refine (ReducedOf_any _ _ ss.length ss fs z w7 (HR.out.below hb27) (HF.out.below hb27) HOK.out HZ.out l2 l1 hs64 HFO.out fl).mono ?_
      rintro e w8 ⟨v8, rfl, hn8, hb8⟩
      have hn8' := Rd.of_own hn8
      have HRR2 := Lib.hid hn8'
      obtain ⟨Ar2, cr2, rfl, _, _, _, _⟩ := hn8'
      have hb28 := hb27.trans (hb8.mono hb27.size)
      clear hn8
      go_wp2_with fail
      refine (SmallestOf_big _ _ ss.length ss fs z w8 (HR.out.below hb28) (HF.out.below hb28) HZ.out l1 hs64 h14').mono ?_
      rintro e w9 ⟨rfl, rfl⟩
      have b38 := (hb4.trans ((hb5.trans ((hb6.trans ((hb7.trans (hb8.mono hb7.size)).mono hb6.size)).mono hb5.size)).mono hb4.size))
      have b48 := (hb5.trans ((hb6.trans ((hb7.trans (hb8.mono hb7.size)).mono hb6.size)).mono hb5.size))
      have HE1 := Lib.hid (EqI_same _ _ _ _ _ _ w8 (HRN.out.below b38) (HRN2.out.below hb8) (by omega) HL1.out)
      have HE2 := fun W (hw : Below w8.heap.size w8 W) => EqS_same _ _ _ _ _ _ W ((HRR.out.below b48).below hw) (HRR2.out.below hw) (by omega) HL2.out
      have HE2' := Lib.hid HE2
      clear HE2
      go_wp2_with fail
      refine HE1.out.mono ?_
      rintro e w10 ⟨rfl, hb10⟩
      go_wp2_with fail
      refine (HE2'.out _ hb10).mono ?_
      rintro e w11 ⟨rfl, hb11⟩
      have hb911 := hb10.trans (hb11.mono hb10.size)
      go_wp2_with fail
      refine (EqI_same _ _ 0 0 [] [] w11 (Rd.nil _ _) (Rd.nil _ _) (by omega) rfl).mono ?_
      rintro e w12 ⟨rfl, hb12⟩
      have hb912 := hb911.trans (hb12.mono hb911.size)
      go_wp2_with fail
      refine (faulted_any w12).mono ?_
      rintro e w13 ⟨rfl, hb13⟩
      have hb913 := hb912.trans (hb13.mono hb912.size)
      have hf4 := hb28.trans (hb913.mono hb28.size)
      have hf5 := hbel.trans (hf4.mono hbel.size)
      go_wp2_with fail
      go_ret
      exact ⟨rfl, hf5⟩
  · have e0 : (lfault ss fs == 0) = false := beq_eq_false_iff_ne.2 h0
    have H0 : Hid (lfault ss fs ≠ 0) := h0
    clear h0
    have HN := Lib.hid (Needed_bad _ _ ss _ fs w2 HR.out HSZ.out HF.out H0.out)
    go_wp2_with fail
    refine HN.out.mono ?_
    rintro e w3 ⟨rfl, hb3⟩
    have HR3 := Lib.hid (Reduced_bad _ _ ss _ fs w3 (HR.out.below hb3) HSZ.out (HF.out.below hb3) H0.out)
    go_wp2_with fail
    refine HR3.out.mono ?_
    rintro e w4 ⟨rfl, hb4⟩
    have hb24 := hb3.trans (hb4.mono hb3.size)
    have HR4 := Lib.hid (Smallest_bad _ _ ss _ fs w4 (HR.out.below hb24) HSZ.out (HF.out.below hb24) H0.out)
    go_wp2_with fail
    refine HR4.out.mono ?_
    rintro e w5 ⟨rfl, hb5⟩
    have hb25 := hb24.trans (hb5.mono hb24.size)
    have HR5 := Lib.hid (listFault_any _ _ ss _ fs w5 (HR.out.below hb25) HSZ.out (HF.out.below hb25))
    go_wp2_with fail
    refine HR5.out.mono ?_
    rintro e w6 ⟨rfl, hb6⟩
    have hb26 := hb25.trans (hb6.mono hb25.size)
    generalize lfault ss fs = q at *
    go_wp2_with fail
    refine (EqI_same _ _ 0 0 [] [] w6 (Rd.nil _ _) (Rd.nil _ _) (by omega) rfl).mono ?_
    rintro e w7 ⟨rfl, hb7⟩
    go_wp2_with fail
    refine (EqS_same _ _ 0 0 [] [] w7 (Rd.nil _ _) (Rd.nil _ _) (by omega) rfl).mono ?_
    rintro e w8 ⟨rfl, hb8⟩
    go_wp2_with fail
    refine (EqI_same _ _ 0 0 [] [] w8 (Rd.nil _ _) (Rd.nil _ _) (by omega) rfl).mono ?_
    rintro e w9 ⟨rfl, hb9⟩
    go_wp2_with fail
    refine (faulted_any w9).mono ?_
    rintro e w10 ⟨rfl, hb10⟩
    have hf1 := hb26.trans (hb7.mono hb26.size)
    have hf2 := hf1.trans (hb8.mono hf1.size)
    have hf3 := hf2.trans (hb9.mono hf2.size)
    have hf4 := hf3.trans (hb10.mono hf3.size)
    have hf5 := hbel.trans (hf4.mono hbel.size)
    go_wp2_with fail
    go_ret
    exact ⟨rfl, hf5⟩
end Go.Proofs.YtedpnjbbcfiheaaGreatDoor

/- Walks of faultsFault, manyFault, FaultsFault, listFault. -/
import Derived.Test.YtedpnjbbcfiheaaGreatDoorW10
set_option linter.unusedVariables false
namespace Go.Proofs.YtedpnjbbcfiheaaGreatDoor
open Go.RowKit Go.Sc
def fsL (nets : Int) : List (Int × List Int) → Int
  | [] => 0
  | f :: r => if ffault nets f.1 f.2 = 0 then fsL nets r else ffault nets f.1 f.2
def lfault (ss : List ByteArray) (fs : List (Int × List Int)) : Int := if tfault ss = 0 then (if 20000 < fs.length then 2 else fsL ss.length fs) else tfault ss
theorem ffault_ok {nets k : Int} {ns : List Int} (h : ffault nets k ns = 0) : 1 ≤ nets ∧ nets ≤ 100 ∧ 1 ≤ k ∧ k ≤ 6 ∧ 1 ≤ ns.length ∧ ns.length ≤ 6 ∧ (∀ x ∈ ns, 0 ≤ x ∧ x < nets) ∧ ((!outB k 3 5) = decide (1 < ns.length)) := by
  unfold ffault at h
  split at h
  · cases h
  · split at h
    · cases h
    · split at h
      · cases h
      · split at h
        · cases h
        · split at h
          · cases h
          · split at h
            · cases h
            · rename_i h1 h2 h3 h4 h5 h6
              obtain ⟨a1, a2⟩ := outB_false.1 (by simpa using h1)
              obtain ⟨b1, b2⟩ := outB_false.1 (by simpa using h2)
              refine ⟨a1, a2, b1, b2, by omega, by omega, fun x hx => ?_, Decidable.not_not.1 h6⟩
              rw [Bool.not_eq_true, List.any_eq_false] at h5
              have := h5 x hx
              obtain ⟨c1, c2⟩ := outB_false.1 (by simpa using this)
              omega
theorem fsL_ok {nets : Int} {fs : List (Int × List Int)} (h : fsL nets fs = 0) : ∀ f ∈ fs, ffault nets f.1 f.2 = 0 := by
  induction fs with
  | nil => simp
  | cons f r ih =>
    unfold fsL at h
    split at h
    · rename_i h0
      intro x hx
      rcases List.mem_cons.1 hx with rfl | hx
      · exact h0
      · exact ih h x hx
    · rename_i h0
      exact absurd h h0
theorem lfault_ok {ss : List ByteArray} {fs : List (Int × List Int)} (h : lfault ss fs = 0) : tfault ss = 0 ∧ fs.length ≤ 20000 ∧ ∀ f ∈ fs, ffault ss.length f.1 f.2 = 0 := by
  unfold lfault at h
  split at h
  · rename_i h0
    split at h
    · cases h
    · exact ⟨h0, by omega, fsL_ok h⟩
  · rename_i h0
    exact absurd h h0
theorem FOk_of {n : Nat} {k : Int} {ns : List Int} (h : ffault n k ns = 0) : FOk n k ns := by
  obtain ⟨_, _, _, _, h1, h2, h3, _⟩ := ffault_ok h
  exact ⟨h1, h2, fun x hx => ⟨(h3 x hx).1, (h3 x hx).2⟩⟩
set_option maxRecDepth 100000 in
set_option maxHeartbeats 1000000 in
theorem FaultsFault_any (nets : Int) (fv : Value) (fs : List (Int × List Int)) (w : World) (hf : RdF w fv fs) :
    Calls Tryz.prog 65 #[.int .i64 nets, fv] w fun e w' => e = .returned (.int .i64 (if 20000 < fs.length then 2 else fsL nets fs)) ∧ Below w.heap.size w w' := by
  obtain ⟨A2, c2, rfl, f1, f2, f3⟩ := hf
  by_cases hbig : 20000 < fs.length
  · have HX : Hid ((if 20000 < fs.length then 2 else fsL nets fs) = 2) := if_pos hbig
    clear f3
    generalize (if 20000 < fs.length then 2 else fsL nets fs) = res at *
    go_enter Tryz.func65, Tryz.ntmps65
    go_wp2_with fail
    go_ret
    exact ⟨ret_int HX.out.symm, Below.refl _ _⟩
  · have HX : Hid ((if 20000 < fs.length then 2 else fsL nets fs) = fsL nets (fs.drop 0)) := if_neg hbig
    generalize (if 20000 < fs.length then 2 else fsL nets fs) = res at *
    go_enter Tryz.func65, Tryz.ntmps65
    go_wp2_with fail
    go_loopw [13] (fun i wr => ∃ k : Nat, k ≤ fs.length ∧ i = .int .i64 k ∧ Hid (res = fsL nets (fs.drop k)) ∧ Below w.heap.size w wr) (fun i _ => fs.length - (intOf i).toNat)
    case atStart => exact ⟨0, by omega, rfl, HX, Below.refl _ _⟩
    case round =>
      obtain ⟨k, hk, rfl, HK, hbel⟩ := hrel
      clear HX
      by_cases hlt : k < fs.length
      · obtain ⟨b2, off2, rfl, hf2⟩ := f3 (by omega)
        obtain ⟨f, hfk⟩ : ∃ f, fs[k]? = some f := ⟨fs[k]'(by omega), List.getElem?_eq_getElem _⟩
        obtain ⟨nv, g1, g2, g3⟩ := hf2 k f hfk
        have g1' := cell_below hbel _ _ g1
        have g2' := cell_below hbel _ _ g2
        have G3 := Lib.hid g3
        obtain ⟨A3, c3, rfl, _, _, _, _⟩ := g3
        have HU : Hid (res = if ffault nets f.1 f.2 = 0 then fsL nets (fs.drop (k + 1)) else ffault nets f.1 f.2) := by show res = _; rw [HK.out, drop_at hfk, fsL]
        have hbw : Below w.heap.size w (wr.alloc (.cells #[.int .i64 f.1, .slice A3 f.2.length c3] 60)) := hbel.alloc hbel.size _
        have HFV : Hid (FV (wr.alloc (.cells #[.int .i64 f.1, .slice A3 f.2.length c3] 60)) (.agg #[.int .i64 f.1, .slice A3 f.2.length c3]) f.1 f.2) := ⟨_, rfl, G3.out.below hbw⟩
        clear hfk g1 g2 HK
        by_cases h0 : ffault nets f.1 f.2 = 0
        · have HU2 : Hid (res = fsL nets (fs.drop (k + 1))) := by show res = _; rw [HU.out, if_pos h0]
          have HZ := Lib.hid h0
          clear h0 HU
          go_wp2_with fail
          refine (FaultFault_any _ _ _ _ _ HFV.out).mono ?_
          rintro e w3 ⟨rfl, hb3⟩
          rw [HZ.out]
          go_wp2_with fail
          go_roundw
          case rel => exact ⟨k + 1, by omega, by go_num, HU2, hbw.trans (hb3.mono (by have := hbw.size; exact this))⟩
          case measure => simp [intOf]; omega
        · have HU2 : Hid (res = ffault nets f.1 f.2) := by show res = _; rw [HU.out, if_neg h0]
          have e0 : (ffault nets f.1 f.2 == 0) = false := beq_eq_false_iff_ne.2 h0
          clear HU
          go_wp2_with fail
          refine (FaultFault_any _ _ _ _ _ HFV.out).mono ?_
          rintro e w3 ⟨rfl, hb3⟩
          generalize ffault nets f.1 f.2 = r at *
          go_wp2_with fail
          go_ret
          exact ⟨ret_int HU2.out.symm, hbw.trans (hb3.mono (by have := hbw.size; exact this))⟩
      · obtain rfl : k = fs.length := by omega
        have HZ : Hid (res = 0) := by show res = 0; rw [HK.out, List.drop_length]; rfl
        go_wp2_with fail
        go_ret
        exact ⟨ret_int HZ.out.symm, hbel⟩
set_option maxRecDepth 100000 in
set_option maxHeartbeats 1000000 in
theorem faultsFault_any (v : Value) (n : Nat) (ss : List ByteArray) (fv : Value) (fs : List (Int × List Int)) (w : World) (hr : Rd w 1 v n (ss.map .string)) (hsz : szOk ss) (hf : RdF w fv fs) (hlim : fs.length ≤ 20000) :
    Calls Tryz.prog 94 #[v, fv] w fun e w' => e = .returned (.int .i64 (if tfault ss = 0 then fsL ss.length fs else tfault ss)) ∧ Below w.heap.size w w' := by
  have hl : ss.length = n := by have := hr.len; simpa using this
  have HR := Lib.hid hr
  obtain ⟨A, c, rfl, h1, h2, h3, h4⟩ := hr
  obtain ⟨A2, c2, rfl, f1, f2, f3⟩ := hf
  clear h3 h4
  by_cases ht : tfault ss = 0
  · have HX : Hid ((if tfault ss = 0 then fsL ss.length fs else tfault ss) = fsL ss.length (fs.drop 0)) := if_pos ht
    generalize (if tfault ss = 0 then fsL ss.length fs else tfault ss) = res at *
    have HT := Lib.hid ht
    clear ht
    subst hl
    go_enter Tryz.func94, Tryz.ntmps94
    go_wp2_with fail
    refine (CheckTest_any _ _ ss w HR.out hsz).mono ?_
    rintro e w1 ⟨rfl, hb1⟩
    rw [HT.out]
    go_wp2_with fail
    go_loopw [16] (fun i wr => ∃ k : Nat, k ≤ fs.length ∧ i = .int .i64 k ∧ Hid (res = fsL ss.length (fs.drop k)) ∧ Below w.heap.size w wr) (fun i _ => fs.length - (intOf i).toNat)
    case atStart => exact ⟨0, by omega, rfl, HX, hb1⟩
    case round =>
      obtain ⟨k, hk, rfl, HK, hbel⟩ := hrel
      clear HX
      by_cases hlt : k < fs.length
      · obtain ⟨b2, off2, rfl, hf2⟩ := f3 (by omega)
        obtain ⟨f, hfk⟩ : ∃ f, fs[k]? = some f := ⟨fs[k]'(by omega), List.getElem?_eq_getElem _⟩
        obtain ⟨nv, g1, g2, g3⟩ := hf2 k f hfk
        have g1' := cell_below hbel _ _ g1
        have g2' := cell_below hbel _ _ g2
        have G3 := Lib.hid g3
        obtain ⟨A3, c3, rfl, _, _, _, _⟩ := g3
        have HU : Hid (res = if ffault ss.length f.1 f.2 = 0 then fsL ss.length (fs.drop (k + 1)) else ffault ss.length f.1 f.2) := by show res = _; rw [HK.out, drop_at hfk, fsL]
        have hbw : Below w.heap.size w (wr.alloc (.cells #[.int .i64 f.1, .slice A3 f.2.length c3] 60)) := hbel.alloc hbel.size _
        have HFV : Hid (FV (wr.alloc (.cells #[.int .i64 f.1, .slice A3 f.2.length c3] 60)) (.agg #[.int .i64 f.1, .slice A3 f.2.length c3]) f.1 f.2) := ⟨_, rfl, G3.out.below hbw⟩
        clear hfk g1 g2 HK
        by_cases h0 : ffault ss.length f.1 f.2 = 0
        · have HU2 : Hid (res = fsL ss.length (fs.drop (k + 1))) := by show res = _; rw [HU.out, if_pos h0]
          have HZ := Lib.hid h0
          clear h0 HU
          go_wp2_with fail
          refine (CheckFault_any _ _ _ _ _ HFV.out).mono ?_
          rintro e w3 ⟨rfl, hb3⟩
          rw [HZ.out]
          go_wp2_with fail
          go_roundw
          case rel => exact ⟨k + 1, by omega, by go_num, HU2, hbw.trans (hb3.mono (by have := hbw.size; exact this))⟩
          case measure => simp [intOf]; omega
        · have HU2 : Hid (res = ffault ss.length f.1 f.2) := by show res = _; rw [HU.out, if_neg h0]
          have e0 : (ffault ss.length f.1 f.2 == 0) = false := beq_eq_false_iff_ne.2 h0
          clear HU
          go_wp2_with fail
          refine (CheckFault_any _ _ _ _ _ HFV.out).mono ?_
          rintro e w3 ⟨rfl, hb3⟩
          generalize ffault ss.length f.1 f.2 = r at *
          go_wp2_with fail
          go_ret
          exact ⟨ret_int HU2.out.symm, hbw.trans (hb3.mono (by have := hbw.size; exact this))⟩
      · obtain rfl : k = fs.length := by omega
        have HZ : Hid (res = 0) := by show res = 0; rw [HK.out, List.drop_length]; rfl
        go_wp2_with fail
        go_ret
        exact ⟨ret_int HZ.out.symm, hbel⟩
  · have HX : Hid ((if tfault ss = 0 then fsL ss.length fs else tfault ss) = tfault ss) := if_neg ht
    have e0 : (tfault ss == 0) = false := beq_eq_false_iff_ne.2 ht
    generalize (if tfault ss = 0 then fsL ss.length fs else tfault ss) = res at *
    clear f3
    go_enter Tryz.func94, Tryz.ntmps94
    go_wp2_with fail
    refine (CheckTest_any _ _ ss w HR.out hsz).mono ?_
    rintro e w1 ⟨rfl, hb1⟩
    generalize tfault ss = r at *
    go_wp2_with fail
    go_ret
    exact ⟨ret_int HX.out.symm, hb1⟩
theorem manyFault_any (v : Value) (n : Nat) (ss : List ByteArray) (fv : Value) (fs : List (Int × List Int)) (w : World) (hr : Rd w 1 v n (ss.map .string)) (hsz : szOk ss) (hf : RdF w fv fs) :
    Calls Tryz.prog 56 #[v, fv] w fun e w' => e = .returned (.int .i64 (lfault ss fs)) ∧ Below w.heap.size w w' := by
  have HR := Lib.hid hr
  have HF := Lib.hid hf
  obtain ⟨A2, c2, rfl, f1, f2, f3⟩ := hf
  clear f3 hr
  by_cases ht : tfault ss = 0
  · have HT := Lib.hid ht
    by_cases hbig : 20000 < fs.length
    · have HX : Hid (lfault ss fs = 2) := by show _ = _; rw [lfault, if_pos ht, if_pos hbig]
      clear ht
      go_enter Tryz.func56, Tryz.ntmps56
      go_wp2_with fail
      refine (CheckTest_any _ _ ss w HR.out hsz).mono ?_
      rintro e w1 ⟨rfl, hb1⟩
      rw [HT.out]
      go_wp2_with fail
      go_ret
      exact ⟨ret_int HX.out.symm, hb1⟩
    · have HX : Hid (lfault ss fs = if tfault ss = 0 then fsL ss.length fs else tfault ss) := by show _ = _; rw [lfault, if_pos ht, if_pos ht, if_neg hbig]
      clear ht
      go_enter Tryz.func56, Tryz.ntmps56
      go_wp2_with fail
      refine (CheckTest_any _ _ ss w HR.out hsz).mono ?_
      rintro e w1 ⟨rfl, hb1⟩
      rw [HT.out]
      go_wp2_with fail
      refine (faultsFault_any _ _ ss _ fs _ (HR.out.below hb1) hsz (HF.out.below hb1) (by omega)).mono ?_
      rintro e w2 ⟨rfl, hb2⟩
      rw [← HX.out]
      go_wp2_with fail
      go_ret
      exact ⟨rfl, hb1.trans (hb2.mono hb1.size)⟩
  · have HX : Hid (lfault ss fs = tfault ss) := by show _ = _; rw [lfault, if_neg ht]
    have e0 : (tfault ss == 0) = false := beq_eq_false_iff_ne.2 ht
    go_enter Tryz.func56, Tryz.ntmps56
    go_wp2_with fail
    refine (CheckTest_any _ _ ss w HR.out hsz).mono ?_
    rintro e w1 ⟨rfl, hb1⟩
    generalize tfault ss = r at *
    go_wp2_with fail
    go_ret
    exact ⟨ret_int HX.out.symm, hb1⟩
theorem listFault_any (v : Value) (n : Nat) (ss : List ByteArray) (fv : Value) (fs : List (Int × List Int)) (w : World) (hr : Rd w 1 v n (ss.map .string)) (hsz : szOk ss) (hf : RdF w fv fs) :
    Calls Tryz.prog 13 #[v, fv] w fun e w' => e = .returned (.int .i64 (lfault ss fs)) ∧ Below w.heap.size w w' := by
  have hl : ss.length = n := by have := hr.len; simpa using this
  have HR := Lib.hid hr
  have HF := Lib.hid hf
  obtain ⟨A, c, rfl, h1, h2, h3, h4⟩ := hr
  clear h3 h4 hf
  by_cases ht : tfault ss = 0
  · have HT := Lib.hid ht
    have HX : Hid (lfault ss fs = if 20000 < fs.length then 2 else fsL ss.length fs) := by show _ = _; rw [lfault, if_pos ht]
    clear ht
    subst hl
    go_enter Tryz.func13, Tryz.ntmps13
    go_wp2_with fail
    refine (TestFault_any _ _ ss w HR.out hsz).mono ?_
    rintro e w1 ⟨rfl, hb1⟩
    rw [HT.out]
    go_wp2_with fail
    refine (FaultsFault_any _ _ fs _ (HF.out.below hb1)).mono ?_
    rintro e w2 ⟨rfl, hb2⟩
    rw [← HX.out]
    go_wp2_with fail
    go_ret
    exact ⟨rfl, hb1.trans (hb2.mono hb1.size)⟩
  · have HX : Hid (lfault ss fs = tfault ss) := by show _ = _; rw [lfault, if_neg ht]
    have e0 : (tfault ss == 0) = false := beq_eq_false_iff_ne.2 ht
    go_enter Tryz.func13, Tryz.ntmps13
    go_wp2_with fail
    refine (TestFault_any _ _ ss w HR.out hsz).mono ?_
    rintro e w1 ⟨rfl, hb1⟩
    generalize tfault ss = r at *
    go_wp2_with fail
    go_ret
    exact ⟨ret_int HX.out.symm, hb1⟩
end Go.Proofs.YtedpnjbbcfiheaaGreatDoor

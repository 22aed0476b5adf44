import Derived.Test.YtedpnjbbcfiheaaGreatDoorFLB20
import Derived.Test.YtedpnjbbcfiheaaGreatDoorFLB14
set_option linter.unusedSimpArgs false
set_option linter.unusedSectionVars false
set_option linter.unusedVariables false
/- Walks of Groups, Resolution. -/
set_option linter.unusedVariables false
namespace Go.Proofs.YtedpnjbbcfiheaaGreatDoor
open Go.RowKit Go.Sc
set_option maxRecDepth 100000 in
theorem Groups_ok (v : Value) (n : Nat) (ss : List ByteArray) (fv : Value) (fs : List (Int × List Int)) (w : World) (hr : Rd w 1 v n (ss.map .string)) (hsz : szOk ss) (hf : RdF w fv fs) (h0 : lfault ss fs = 0) :
    Calls Tryz.prog 27 #[v, fv] w fun e w' => ∃ v', e = .returned (.tuple #[v', .int .i64 0]) ∧ OwnG w' w.heap.size v' (grp (keyG ss fs) fs.length).2 ∧ Below w.heap.size w w' := by
  obtain ⟨t0, fl, fo⟩ := lfault_ok h0
  obtain ⟨l1, l2, hok, _⟩ := tfault_ok t0
  have hl : ss.length = n := by have := hr.len; simpa using this
  have hfo : ∀ f ∈ fs, FOk n f.1 f.2 := fun f hf => by rw [← hl]; exact FOk_of (fo f hf)
  have HR := Lib.hid hr
  have HF := Lib.hid hf
  have H0 := Lib.hid h0
  have hn1 : 1 ≤ n := by omega
  have hn2 : n ≤ 100 := by omega
  clear h0 t0 fo hl hr hf
  go_enter Tryz.func27, Tryz.ntmps27
  go_wp2_with fail
  refine (manyFault_any _ _ ss _ fs w HR.out hsz HF.out).mono ?_
  rintro e w1 ⟨rfl, hb1⟩
  rw [H0.out]
  go_wp2_with fail
  refine (groups_any _ _ n ss fs w1 (HR.out.below hb1) (HF.out.below hb1) hn1 hn2 hok hfo fl).mono ?_
  rintro e w2 ⟨v2, rfl, hown, hb2⟩
  go_wp2_with fail
  go_ret2
  exact ⟨_, rfl, hown.mono hb1.size, hb1.trans (hb2.mono hb1.size)⟩
theorem Groups_bad (v : Value) (n : Nat) (ss : List ByteArray) (fv : Value) (fs : List (Int × List Int)) (w : World) (hr : Rd w 1 v n (ss.map .string)) (hsz : szOk ss) (hf : RdF w fv fs) (h0 : lfault ss fs ≠ 0) :
    Calls Tryz.prog 27 #[v, fv] w fun e w' => e = .returned (.tuple #[.slice none 0 0, .int .i64 (lfault ss fs)]) ∧ Below w.heap.size w w' := by
  have HR := Lib.hid hr
  have HF := Lib.hid hf
  have e0 : (lfault ss fs == 0) = false := beq_eq_false_iff_ne.2 h0
  clear hr hf h0
  go_enter Tryz.func27, Tryz.ntmps27
  go_wp2_with fail
  refine (manyFault_any _ _ ss _ fs w HR.out hsz HF.out).mono ?_
  rintro e w1 ⟨rfl, hb1⟩
  go_wp2_with fail
  go_ret2
  exact ⟨rfl, hb1⟩
set_option maxRecDepth 100000 in
theorem Resolution_ok (v : Value) (n : Nat) (ss : List ByteArray) (fv : Value) (fs : List (Int × List Int)) (w : World) (hr : Rd w 1 v n (ss.map .string)) (hsz : szOk ss) (hf : RdF w fv fs) (h0 : lfault ss fs = 0) (h1 : 1 ≤ fs.length) :
    Calls Tryz.prog 28 #[v, fv] w fun e w' => e = .returned (.tuple #[fracV (grp (keyG ss fs) fs.length).2.length fs.length, .int .i64 0]) ∧ Below w.heap.size w w' := by
  obtain ⟨t0, fl, fo⟩ := lfault_ok h0
  obtain ⟨l1, l2, hok, _⟩ := tfault_ok t0
  have hl : ss.length = n := by have := hr.len; simpa using this
  have hfo : ∀ f ∈ fs, FOk n f.1 f.2 := fun f hf => by rw [← hl]; exact FOk_of (fo f hf)
  have hbw : Below w.heap.size w (w.alloc (.cells #[.int .i64 0, .int .i64 0] 49)) := (Below.refl _ _).alloc (Nat.le_refl _) _
  have hbx := Box2.new 49 w (.int .i64 0) (.int .i64 0)
  have HR := Lib.hid (hr.below hbw)
  have HF := Lib.hid (hf.below hbw)
  have H0 := Lib.hid h0
  have hn1 : 1 ≤ n := by omega
  have hn2 : n ≤ 100 := by omega
  have hgl := grp_len (keyG ss fs) fs.length
  obtain ⟨A2, c2, rfl, _, _, _⟩ := hf
  have e0 : ((fs.length : Int) == 0) = false := beq_eq_false_iff_ne.2 (by omega)
  clear h0 t0 fo hl hr
  go_enter Tryz.func28, Tryz.ntmps28
  go_wp2_with fail
  refine (manyFault_any _ _ ss _ fs _ HR.out hsz HF.out).mono ?_
  rintro e w1 ⟨rfl, hb1⟩
  rw [H0.out]
  go_wp2_with fail
  refine (groups_any _ _ n ss fs w1 (HR.out.below hb1) (HF.out.below hb1) hn1 hn2 hok hfo fl).mono ?_
  rintro e w2 ⟨v2, rfl, hown, hb2⟩
  have hb12 : Below w.heap.size w w2 := (hbw.trans (hb1.mono (by simp))).trans (hb2.mono (Nat.le_trans (by simp) hb1.size))
  have hbx1 := (hbx.below hb1).below hb2
  obtain ⟨A3, c3, rfl, _, _, _⟩ := hown.rdl
  clear hown
  generalize hq : (grp (keyG ss fs) fs.length).2.length = q at *
  have HQ := Lib.hid hq
  clear hq
  go_wp2_with fail
  refine (Fraction_any _ _ _ (by omega) (by omega) h1).mono ?_
  rintro e w3 ⟨rfl, hb3⟩
  have hbx2 := hbx1.below hb3
  have hbel := hb12.trans (hb3.mono hb12.size)
  have HFR : Hid (fracV q fs.length = .agg #[.int .i64 ((q / Nat.gcd q fs.length : Nat) : Int), .int .i64 ((fs.length / Nat.gcd q fs.length : Nat) : Int)]) := rfl
  rw [HFR.out]
  generalize (q / Nat.gcd q fs.length : Nat) = x at *
  generalize (fs.length / Nat.gcd q fs.length : Nat) = y at *
  have c0 := hbx2.cell0
  have c1 := hbx2.cell1
  have cf := hbx2.frozen
  have hbx3 := (hbx2.set0 (.int .i64 (x : Int))).set1 (.int .i64 (y : Int))
  have t0 := hbx3.cell0
  have t1 := hbx3.cell1
  go_wp2_with fail
  refine bodyPost_ret (v := .tuple #[.agg #[.int .i64 (x : Int), .int .i64 (y : Int)], .int .i64 0]) (by simp [results, Tryz.results28, go_sem, t0, t1]) rfl ?_
  rw [HQ.out, HFR.out]
  exact ⟨rfl, (hbel.setCell (Nat.le_refl _) _).setCell (Nat.le_refl _) _⟩
def resErr (ss : List ByteArray) (fs : List (Int × List Int)) : Int := if lfault ss fs = 0 then 8 else lfault ss fs
set_option maxRecDepth 100000 in
set_option maxHeartbeats 1000000 in
theorem Resolution_bad (v : Value) (n : Nat) (ss : List ByteArray) (fv : Value) (fs : List (Int × List Int)) (w : World) (hr : Rd w 1 v n (ss.map .string)) (hsz : szOk ss) (hf : RdF w fv fs) (h0 : lfault ss fs ≠ 0 ∨ fs.length = 0) :
    Calls Tryz.prog 28 #[v, fv] w fun e w' => e = .returned (.tuple #[frac0, .int .i64 (resErr ss fs)]) ∧ Below w.heap.size w w' := by
  have hbw : Below w.heap.size w (w.alloc (.cells #[.int .i64 0, .int .i64 0] 49)) := (Below.refl _ _).alloc (Nat.le_refl _) _
  have hbx := Box2.new 49 w (.int .i64 0) (.int .i64 0)
  have HR := Lib.hid (hr.below hbw)
  have HF := Lib.hid (hf.below hbw)
  obtain ⟨A2, c2, rfl, _, _, _⟩ := hf
  clear hr
  have HE : Hid (resErr ss fs = if lfault ss fs = 0 then 8 else lfault ss fs) := rfl
  have H0 := Lib.hid h0
  clear h0
  generalize hx : lfault ss fs = x at *
  have HX := Lib.hid hx
  clear hx
  by_cases e : x = 0
  · have hn : fs.length = 0 := by rcases H0.out with h | h; exact absurd e h; exact h
    have HE2 : Hid (resErr ss fs = 8) := HE.out.trans (if_pos e)
    subst e
    have e0 : ((fs.length : Int) == 0) = true := beq_iff_eq.2 (by omega)
    clear hn
    go_enter Tryz.func28, Tryz.ntmps28
    go_wp2_with fail
    refine (manyFault_any _ _ ss _ fs _ HR.out hsz HF.out).mono ?_
    rintro e w1 ⟨rfl, hb1⟩
    rw [HX.out]
    have hb2 : Below w.heap.size w w1 := hbw.trans (hb1.mono (by simp))
    have hbx2 := hbx.below hb1
    have c0 := hbx2.cell0
    have c1 := hbx2.cell1
    have cf := hbx2.frozen
    have hbx3 := (hbx2.set0 (.int .i64 0)).set1 (.int .i64 0)
    have t0 := hbx3.cell0
    have t1 := hbx3.cell1
    go_wp2_with fail
    refine bodyPost_ret (v := .tuple #[.agg #[.int .i64 0, .int .i64 0], .int .i64 8]) (by simp [results, Tryz.results28, go_sem, t0, t1]) rfl ?_
    rw [HE2.out]
    exact ⟨rfl, (hb2.setCell (Nat.le_refl _) _).setCell (Nat.le_refl _) _⟩
  · have HE2 : Hid (resErr ss fs = x) := HE.out.trans (if_neg e)
    have e0 : (x == 0) = false := beq_eq_false_iff_ne.2 e
    clear e
    go_enter Tryz.func28, Tryz.ntmps28
    go_wp2_with fail
    refine (manyFault_any _ _ ss _ fs _ HR.out hsz HF.out).mono ?_
    rintro e w1 ⟨rfl, hb1⟩
    rw [HX.out]
    have hb2 : Below w.heap.size w w1 := hbw.trans (hb1.mono (by simp))
    have hbx2 := hbx.below hb1
    have c0 := hbx2.cell0
    have c1 := hbx2.cell1
    have cf := hbx2.frozen
    have hbx3 := (hbx2.set0 (.int .i64 0)).set1 (.int .i64 0)
    have t0 := hbx3.cell0
    have t1 := hbx3.cell1
    go_wp2_with fail
    refine bodyPost_ret (v := .tuple #[.agg #[.int .i64 0, .int .i64 0], .int .i64 x]) (by simp [results, Tryz.results28, go_sem, t0, t1]) rfl ?_
    rw [HE2.out]
    exact ⟨rfl, (hb2.setCell (Nat.le_refl _) _).setCell (Nat.le_refl _) _⟩
end Go.Proofs.YtedpnjbbcfiheaaGreatDoor

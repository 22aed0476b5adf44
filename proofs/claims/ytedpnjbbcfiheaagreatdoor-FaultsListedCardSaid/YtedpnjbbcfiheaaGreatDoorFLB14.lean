import Derived.Test.YtedpnjbbcfiheaaGreatDoorFLB13
set_option linter.unusedSimpArgs false
set_option linter.unusedSectionVars false
set_option linter.unusedVariables false
/- Walks of Coverage, CoverageOf. -/
set_option linter.unusedVariables false
namespace Go.Proofs.YtedpnjbbcfiheaaGreatDoor
open Go.RowKit Go.Sc
def frac0 : Value := .agg #[.int .i64 0, .int .i64 0]
set_option maxRecDepth 100000 in
theorem Coverage_ok (v : Value) (n : Nat) (ss : List ByteArray) (fv : Value) (fs : List (Int × List Int)) (w : World) (hr : Rd w 1 v n (ss.map .string)) (hsz : szOk ss) (hf : RdF w fv fs) (h0 : lfault ss fs = 0) (h1 : 1 ≤ fs.length) :
    Calls Tryz.prog 26 #[v, fv] w fun e w' => e = .returned (.tuple #[fracV (fs.length - (numL (undM (maskN ss fs)) fs.length).length) fs.length, .int .i64 0]) ∧ Below w.heap.size w w' := by
  obtain ⟨_, fl, _⟩ := lfault_ok h0
  have hbw : Below w.heap.size w (w.alloc (.cells #[.int .i64 0, .int .i64 0] 49)) := (Below.refl _ _).alloc (Nat.le_refl _) _
  have HU := Lib.hid (Undetected_ok v n ss fv fs _ (hr.below hbw) hsz (hf.below hbw) h0)
  have hbx := Box2.new 49 w (.int .i64 0) (.int .i64 0)
  obtain ⟨A2, c2, rfl, _, _, _⟩ := hf
  have hlen := numL_len (undM (maskN ss fs)) fs.length
  clear h0
  go_enter Tryz.func26, Tryz.ntmps26
  go_wp2_with fail
  refine HU.out.mono ?_
  rintro e w1 ⟨v1, rfl, hown, hb1⟩
  have hb2 : Below w.heap.size w w1 := hbw.trans (hb1.mono (by simp))
  have hbx1 := hbx.below hb1
  obtain ⟨A3, c3, rfl, _, _, _, _⟩ := Rd.of_own hown
  clear hown
  generalize hq : (numL (undM (maskN ss fs)) fs.length).length = q at *
  have HQ := Lib.hid hq
  clear hq
  have e0 : ((fs.length : Int) == 0) = false := beq_eq_false_iff_ne.2 (by omega)
  have hsub : (fs.length : Int) - (q : Int) = ((fs.length - q : Nat) : Int) := by omega
  have HSB := Lib.hid hsub
  clear hsub
  go_wp2_with fail
  rw [HSB.out]
  refine (Fraction_any _ _ _ (by omega) (by omega) h1).mono ?_
  rintro e w2 ⟨rfl, hb3⟩
  have hbx2 := hbx1.below hb3
  have hbel := hb2.trans (hb3.mono hb2.size)
  have hsz2 := hbel.size
  have HFR : Hid (fracV (fs.length - q) fs.length = .agg #[.int .i64 (((fs.length - q) / Nat.gcd (fs.length - q) fs.length : Nat) : Int), .int .i64 ((fs.length / Nat.gcd (fs.length - q) fs.length : Nat) : Int)]) := rfl
  rw [HFR.out]
  generalize ((fs.length - q) / Nat.gcd (fs.length - q) fs.length : Nat) = x at *
  generalize (fs.length / Nat.gcd (fs.length - q) fs.length : Nat) = y at *
  have c0 := hbx2.cell0
  have c1 := hbx2.cell1
  have cf := hbx2.frozen
  have hbx3 := (hbx2.set0 (.int .i64 (x : Int))).set1 (.int .i64 (y : Int))
  have t0 := hbx3.cell0
  have t1 := hbx3.cell1
  go_wp2_with fail
  refine bodyPost_ret (v := .tuple #[.agg #[.int .i64 (x : Int), .int .i64 (y : Int)], .int .i64 0]) (by simp [results, Tryz.results26, go_sem, t0, t1]) rfl ?_
  rw [HQ.out, HFR.out]
  exact ⟨rfl, (hbel.setCell (Nat.le_refl _) _).setCell (Nat.le_refl _) _⟩
set_option maxRecDepth 100000 in
theorem Coverage_none (v : Value) (n : Nat) (ss : List ByteArray) (fv : Value) (fs : List (Int × List Int)) (w : World) (hr : Rd w 1 v n (ss.map .string)) (hsz : szOk ss) (hf : RdF w fv fs) (h0 : lfault ss fs = 0) (h1 : fs.length = 0) :
    Calls Tryz.prog 26 #[v, fv] w fun e w' => e = .returned (.tuple #[frac0, .int .i64 8]) ∧ Below w.heap.size w w' := by
  have hbw : Below w.heap.size w (w.alloc (.cells #[.int .i64 0, .int .i64 0] 49)) := (Below.refl _ _).alloc (Nat.le_refl _) _
  have HU := Lib.hid (Undetected_ok v n ss fv fs _ (hr.below hbw) hsz (hf.below hbw) h0)
  have hbx := Box2.new 49 w (.int .i64 0) (.int .i64 0)
  obtain ⟨A2, c2, rfl, _, _, _⟩ := hf
  have e0 : ((fs.length : Int) == 0) = true := beq_iff_eq.2 (by omega)
  clear h0 h1
  go_enter Tryz.func26, Tryz.ntmps26
  go_wp2_with fail
  refine HU.out.mono ?_
  rintro e w1 ⟨v1, rfl, hown, hb1⟩
  have hb2 : Below w.heap.size w w1 := hbw.trans (hb1.mono (by simp))
  have hbx2 := hbx.below hb1
  obtain ⟨A3, c3, rfl, _, _, _, _⟩ := Rd.of_own hown
  clear hown
  generalize (numL (undM (maskN ss fs)) fs.length).length = q at *
  have c0 := hbx2.cell0
  have c1 := hbx2.cell1
  have cf := hbx2.frozen
  have hbx3 := (hbx2.set0 (.int .i64 0)).set1 (.int .i64 0)
  have t0 := hbx3.cell0
  have t1 := hbx3.cell1
  go_wp2_with fail
  refine bodyPost_ret (v := .tuple #[.agg #[.int .i64 0, .int .i64 0], .int .i64 8]) (by simp [results, Tryz.results26, go_sem, t0, t1]) rfl ?_
  exact ⟨rfl, (hb2.setCell (Nat.le_refl _) _).setCell (Nat.le_refl _) _⟩
set_option maxRecDepth 100000 in
theorem Coverage_bad (v : Value) (n : Nat) (ss : List ByteArray) (fv : Value) (fs : List (Int × List Int)) (w : World) (hr : Rd w 1 v n (ss.map .string)) (hsz : szOk ss) (hf : RdF w fv fs) (h0 : lfault ss fs ≠ 0) :
    Calls Tryz.prog 26 #[v, fv] w fun e w' => e = .returned (.tuple #[frac0, .int .i64 (lfault ss fs)]) ∧ Below w.heap.size w w' := by
  have hbw : Below w.heap.size w (w.alloc (.cells #[.int .i64 0, .int .i64 0] 49)) := (Below.refl _ _).alloc (Nat.le_refl _) _
  have HU := Lib.hid (Undetected_bad v n ss fv fs _ (hr.below hbw) hsz (hf.below hbw) h0)
  have hbx := Box2.new 49 w (.int .i64 0) (.int .i64 0)
  obtain ⟨A2, c2, rfl, _, _, _⟩ := hf
  have e0 : (lfault ss fs == 0) = false := beq_eq_false_iff_ne.2 h0
  clear h0
  go_enter Tryz.func26, Tryz.ntmps26
  go_wp2_with fail
  refine HU.out.mono ?_
  rintro e w1 ⟨rfl, hb1⟩
  have hb2 : Below w.heap.size w w1 := hbw.trans (hb1.mono (by simp))
  have hbx2 := hbx.below hb1
  have c0 := hbx2.cell0
  have c1 := hbx2.cell1
  have cf := hbx2.frozen
  have hbx3 := (hbx2.set0 (.int .i64 0)).set1 (.int .i64 0)
  have t0 := hbx3.cell0
  have t1 := hbx3.cell1
  go_wp2_with fail
  refine bodyPost_ret (v := .tuple #[.agg #[.int .i64 0, .int .i64 0], .int .i64 (lfault ss fs)]) (by simp [results, Tryz.results26, go_sem, t0, t1]) rfl ?_
  exact ⟨rfl, (hb2.setCell (Nat.le_refl _) _).setCell (Nat.le_refl _) _⟩
/-! ### the reference -/
set_option maxRecDepth 100000 in
theorem CoverageOf_none (tv fv : Value) (fs : List (Int × List Int)) (w : World) (hf : RdF w fv fs) (h1 : fs.length = 0) :
    Calls Tryz.prog 35 #[tv, fv] w fun e w' => e = .returned (.tuple #[frac0, .int .i64 8]) ∧ Below w.heap.size w w' := by
  have hbw : Below w.heap.size w (w.alloc (.cells #[.int .i64 0, .int .i64 0] 49)) := (Below.refl _ _).alloc (Nat.le_refl _) _
  have hbx2 := Box2.new 49 w (.int .i64 0) (.int .i64 0)
  obtain ⟨A2, c2, rfl, _, _, _⟩ := hf
  rw [h1]
  have hbx3 := (hbx2.set0 (.int .i64 0)).set1 (.int .i64 0)
  have c0 := hbx2.cell0
  have c1 := hbx2.cell1
  have cf := hbx2.frozen
  have t0 := hbx3.cell0
  have t1 := hbx3.cell1
  clear h1
  go_enter Tryz.func35, Tryz.ntmps35
  go_wp2_with fail
  refine bodyPost_ret (v := .tuple #[.agg #[.int .i64 0, .int .i64 0], .int .i64 8]) (by simp [results, Tryz.results35, go_sem]) rfl ?_
  first | exact ⟨rfl, hbw⟩ | exact ⟨rfl, (hbw.setCell (Nat.le_refl _) _).setCell (Nat.le_refl _) _⟩
set_option maxRecDepth 100000 in
theorem CoverageOf_ok (tv fv : Value) (n : Nat) (ss : List ByteArray) (fs : List (Int × List Int)) (z : Nat) (w : World) (hr : Rd w 1 tv n (ss.map .string)) (hf : RdF w fv fs) (hok : okTest ss) (hz : ∀ s ∈ ss, s.size = z) (hn : n ≤ 100) (hn1 : 1 ≤ n) (hz64 : z ≤ 64)
    (hfo : ∀ f ∈ fs, FOk n f.1 f.2) (hfl : fs.length ≤ 20000) (h1 : 1 ≤ fs.length) :
    Calls Tryz.prog 35 #[tv, fv] w fun e w' => e = .returned (.tuple #[fracV (fs.length - (numL (undC ss fs) fs.length).length) fs.length, .int .i64 0]) ∧ Below w.heap.size w w' := by
  have hbw : Below w.heap.size w (w.alloc (.cells #[.int .i64 0, .int .i64 0] 49)) := (Below.refl _ _).alloc (Nat.le_refl _) _
  have HU := Lib.hid (UndetectedOf_any tv fv n ss fs z _ (hr.below hbw) (hf.below hbw) hok hz hn hn1 hz64 hfo hfl)
  have hbx := Box2.new 49 w (.int .i64 0) (.int .i64 0)
  obtain ⟨A2, c2, rfl, _, _, _⟩ := hf
  have hlen := numL_len (undC ss fs) fs.length
  have e0 : ((fs.length : Int) == 0) = false := beq_eq_false_iff_ne.2 (by omega)
  clear hr hok hz hfo
  go_enter Tryz.func35, Tryz.ntmps35
  go_wp2_with fail
  refine HU.out.mono ?_
  rintro e w1 ⟨v1, rfl, hown, hb1⟩
  have hb2 : Below w.heap.size w w1 := hbw.trans (hb1.mono (by simp))
  have hbx1 := hbx.below hb1
  obtain ⟨A3, c3, rfl, _, _, _, _⟩ := Rd.of_own hown
  clear hown
  generalize hq : (numL (undC ss fs) fs.length).length = q at *
  have HQ := Lib.hid hq
  clear hq
  have hsub : (fs.length : Int) - (q : Int) = ((fs.length - q : Nat) : Int) := by omega
  have HSB := Lib.hid hsub
  clear hsub
  go_wp2_with fail
  rw [HSB.out]
  refine (Lowest_any _ _ _ (by omega) (by omega) h1).mono ?_
  rintro e w2 ⟨rfl, hb3⟩
  have hbx2 := hbx1.below hb3
  have hbel := hb2.trans (hb3.mono hb2.size)
  have hsz2 := hbel.size
  have HFR : Hid (fracV (fs.length - q) fs.length = .agg #[.int .i64 (((fs.length - q) / Nat.gcd (fs.length - q) fs.length : Nat) : Int), .int .i64 ((fs.length / Nat.gcd (fs.length - q) fs.length : Nat) : Int)]) := rfl
  rw [HFR.out]
  generalize ((fs.length - q) / Nat.gcd (fs.length - q) fs.length : Nat) = x at *
  generalize (fs.length / Nat.gcd (fs.length - q) fs.length : Nat) = y at *
  have c0 := hbx2.cell0
  have c1 := hbx2.cell1
  have cf := hbx2.frozen
  have hbx3 := (hbx2.set0 (.int .i64 (x : Int))).set1 (.int .i64 (y : Int))
  have t0 := hbx3.cell0
  have t1 := hbx3.cell1
  go_wp2_with fail
  refine bodyPost_ret (v := .tuple #[.agg #[.int .i64 (x : Int), .int .i64 (y : Int)], .int .i64 0]) (by simp [results, Tryz.results35, go_sem, t0, t1]) rfl ?_
  rw [HQ.out, HFR.out]
  exact ⟨rfl, (hbel.setCell (Nat.le_refl _) _).setCell (Nat.le_refl _) _⟩
end Go.Proofs.YtedpnjbbcfiheaaGreatDoor

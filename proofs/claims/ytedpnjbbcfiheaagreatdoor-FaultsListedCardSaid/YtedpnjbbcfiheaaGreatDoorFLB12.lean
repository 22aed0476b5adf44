import Derived.Test.YtedpnjbbcfiheaaGreatDoorFLB01
import Derived.Test.YtedpnjbbcfiheaaGreatDoorFLB09
import Derived.BigQuiet
import Derived.Deep.QuietTactic
set_option linter.unusedSimpArgs false
set_option linter.unusedSectionVars false
set_option linter.unusedVariables false
/- Walks of Gcd, divisor, Fraction, Lowest at natural numbers. -/
set_option linter.unusedVariables false
namespace Go.Proofs.YtedpnjbbcfiheaaGreatDoor
open Go.RowKit Go.Sc
set_option maxRecDepth 100000 in
theorem Gcd_any (a b : Nat) (w : World) (ha : a ≤ 1000000000) (hb : b ≤ 1000000000) :
    Calls Tryz.prog 125 #[.int .i64 a, .int .i64 b] w fun e w' => e = .returned (.int .i64 ((Nat.gcd a b : Nat) : Int)) ∧ Below w.heap.size w w' := by
  go_enter Tryz.func125, Tryz.ntmps125
  go_wp2_with fail
  go_loopw [0, 1] (fun u v wr => ∃ (x y : Nat), u = .int .i64 x ∧ v = .int .i64 y ∧ x ≤ 1000000000 ∧ y ≤ 1000000000 ∧ Hid (Nat.gcd x y = Nat.gcd a b) ∧ Below w.heap.size w wr) (fun _ v _ => (intOf v).toNat)
  case atStart => exact ⟨a, b, rfl, rfl, ha, hb, rfl, Below.refl _ _⟩
  case round =>
    obtain ⟨x, y, rfl, rfl, hx, hy, HG, hbel⟩ := hrel
    by_cases h0 : y = 0
    · subst h0
      go_wp2_with fail
      go_ret
      exact ⟨ret_int (by rw [← HG.out, Nat.gcd_zero_right]), hbel⟩
    · have e0 : ((y : Int) != 0) = true := by rw [bne_iff_ne]; omega
      have h1 : (1 : Int) ≤ y := by omega
      have hm := Nat.mod_lt x (show 0 < y by omega)
      have HG2 : Hid (Nat.gcd y (x % y) = Nat.gcd a b) := by
        show _ = _
        rw [← HG.out, Nat.gcd_comm x y, Nat.gcd_rec y x, Nat.gcd_comm]
      go_wp2_with fail
      go_quiet (fail)
      go_wp2_with fail
      go_roundw
      case rel => exact ⟨y, x % y, rfl, by simp, by omega, by omega, HG2, pw_below_drewN hbel _⟩
      case measure => simp [intOf]; omega
theorem gcd_pos (a b : Nat) (hb : 1 ≤ b) : 1 ≤ Nat.gcd a b ∧ Nat.gcd a b ≤ b := ⟨Nat.gcd_pos_of_pos_right _ hb, Nat.gcd_le_right _ hb⟩
set_option maxRecDepth 100000 in
theorem divisor_any (a b : Nat) (w : World) (ha : a ≤ 1000000000) (hb : b ≤ 1000000000) :
    Calls Tryz.prog 129 #[.int .i64 a, .int .i64 b] w fun e w' => e = .returned (.int .i64 ((Nat.gcd a b : Nat) : Int)) ∧ Below w.heap.size w w' := by
  go_enter Tryz.func129, Tryz.ntmps129
  go_wp2_with fail
  go_loopw [0, 1] (fun u v wr => ∃ (x y : Nat), u = .int .i64 x ∧ v = .int .i64 y ∧ x ≤ 1000000000 ∧ y ≤ 1000000000 ∧ Hid (Nat.gcd x y = Nat.gcd a b) ∧ Below w.heap.size w wr) (fun _ v _ => (intOf v).toNat)
  case atStart => exact ⟨a, b, rfl, rfl, ha, hb, rfl, Below.refl _ _⟩
  case round =>
    obtain ⟨x, y, rfl, rfl, hx, hy, HG, hbel⟩ := hrel
    by_cases h0 : y = 0
    · subst h0
      go_wp2_with fail
      go_ret
      exact ⟨ret_int (by rw [← HG.out, Nat.gcd_zero_right]), hbel⟩
    · have e0 : ((y : Int) != 0) = true := by rw [bne_iff_ne]; omega
      have h1 : (1 : Int) ≤ y := by omega
      have hm := Nat.mod_lt x (show 0 < y by omega)
      have HG2 : Hid (Nat.gcd y (x % y) = Nat.gcd a b) := by
        show _ = _
        rw [← HG.out, Nat.gcd_comm x y, Nat.gcd_rec y x, Nat.gcd_comm]
      go_wp2_with fail
      go_quiet (fail)
      go_wp2_with fail
      go_roundw
      case rel => exact ⟨y, x % y, rfl, by simp, by omega, by omega, HG2, pw_below_drewN hbel _⟩
      case measure => simp [intOf]; omega
/-- a fraction in lowest terms, as a value -/
def fracV (a b : Nat) : Value := .agg #[.int .i64 ((a / Nat.gcd a b : Nat) : Int), .int .i64 ((b / Nat.gcd a b : Nat) : Int)]
set_option maxRecDepth 100000 in
theorem Fraction_any (a b : Nat) (w : World) (ha : a ≤ 1000000000) (hb : b ≤ 1000000000) (hb1 : 1 ≤ b) :
    Calls Tryz.prog 77 #[.int .i64 a, .int .i64 b] w fun e w' => e = .returned (fracV a b) ∧ Below w.heap.size w w' := by
  obtain ⟨g1, g2⟩ := gcd_pos a b hb1
  have HV : Hid (fracV a b = .agg #[.int .i64 ((a / Nat.gcd a b : Nat) : Int), .int .i64 ((b / Nat.gcd a b : Nat) : Int)]) := rfl
  go_enter Tryz.func77, Tryz.ntmps77
  go_wp2_with fail
  refine (Gcd_any a b _ ha hb).mono ?_
  rintro e w1 ⟨rfl, hb1⟩
  generalize Nat.gcd a b = g at *
  have hb0 : Below w.heap.size w w1 := ((Below.refl _ _).alloc (Nat.le_refl _) _).trans (hb1.mono (by simp))
  have hbx : Box2 49 w1 w.heap.size (.int .i64 0) (.int .i64 0) := (Box2.new 49 w (.int .i64 0) (.int .i64 0)).below hb1
  have c0 := hbx.cell0
  have c1 := hbx.cell1
  have cf := hbx.frozen
  have q1 : (1 : Int) ≤ (g : Int) := by omega
  have d0 : 0 ≤ (a : Int) / (g : Int) := Int.ediv_nonneg (by omega) (by omega)
  have d1 : (a : Int) / (g : Int) ≤ a := Int.ediv_le_self _ (by omega)
  have d2 : 0 ≤ (b : Int) / (g : Int) := Int.ediv_nonneg (by omega) (by omega)
  have d3 : (b : Int) / (g : Int) ≤ b := Int.ediv_le_self _ (by omega)
  have hw1 : wrap64 ((a : Int) / (g : Int)) = (a : Int) / (g : Int) := IntWalk.wrap64_in _ ⟨by omega, by omega⟩
  have hw2 : wrap64 ((b : Int) / (g : Int)) = (b : Int) / (g : Int) := IntWalk.wrap64_in _ ⟨by omega, by omega⟩
  have hb2 := (hbx.set0 (.int .i64 ((a : Int) / (g : Int)))).set1 (.int .i64 ((b : Int) / (g : Int)))
  have t0 := hb2.cell0
  have t1 := hb2.cell1
  go_wp2_with fail
  go_region
  go_wp2_with fail
  refine bodyPost_ret (v := .agg #[.int .i64 ((a : Int) / (g : Int)), .int .i64 ((b : Int) / (g : Int))]) (by simp [results, Tryz.results77, go_sem, t0, t1]) rfl ?_
  rw [HV.out]
  refine ⟨by simp, ?_⟩
  first | exact ((hb0.setCell (by simp) _).setCell (by simp) _).drew | exact (hb0.setCell (by simp) _).setCell (by simp) _
set_option maxRecDepth 100000 in
theorem Lowest_any (a b : Nat) (w : World) (ha : a ≤ 1000000000) (hb : b ≤ 1000000000) (hb1 : 1 ≤ b) :
    Calls Tryz.prog 84 #[.int .i64 a, .int .i64 b] w fun e w' => e = .returned (fracV a b) ∧ Below w.heap.size w w' := by
  obtain ⟨g1, g2⟩ := gcd_pos a b hb1
  have HV : Hid (fracV a b = .agg #[.int .i64 ((a / Nat.gcd a b : Nat) : Int), .int .i64 ((b / Nat.gcd a b : Nat) : Int)]) := rfl
  go_enter Tryz.func84, Tryz.ntmps84
  go_wp2_with fail
  refine (divisor_any a b _ ha hb).mono ?_
  rintro e w1 ⟨rfl, hb1⟩
  generalize Nat.gcd a b = g at *
  have hb0 : Below w.heap.size w w1 := ((Below.refl _ _).alloc (Nat.le_refl _) _).trans (hb1.mono (by simp))
  have hbx : Box2 49 w1 w.heap.size (.int .i64 0) (.int .i64 0) := (Box2.new 49 w (.int .i64 0) (.int .i64 0)).below hb1
  have c0 := hbx.cell0
  have c1 := hbx.cell1
  have cf := hbx.frozen
  have q1 : (1 : Int) ≤ (g : Int) := by omega
  have d0 : 0 ≤ (a : Int) / (g : Int) := Int.ediv_nonneg (by omega) (by omega)
  have d1 : (a : Int) / (g : Int) ≤ a := Int.ediv_le_self _ (by omega)
  have d2 : 0 ≤ (b : Int) / (g : Int) := Int.ediv_nonneg (by omega) (by omega)
  have d3 : (b : Int) / (g : Int) ≤ b := Int.ediv_le_self _ (by omega)
  have hw1 : wrap64 ((a : Int) / (g : Int)) = (a : Int) / (g : Int) := IntWalk.wrap64_in _ ⟨by omega, by omega⟩
  have hw2 : wrap64 ((b : Int) / (g : Int)) = (b : Int) / (g : Int) := IntWalk.wrap64_in _ ⟨by omega, by omega⟩
  have hb2 := (hbx.set0 (.int .i64 ((a : Int) / (g : Int)))).set1 (.int .i64 ((b : Int) / (g : Int)))
  have t0 := hb2.cell0
  have t1 := hb2.cell1
  go_wp2_with fail
  go_region
  go_wp2_with fail
  refine bodyPost_ret (v := .agg #[.int .i64 ((a : Int) / (g : Int)), .int .i64 ((b : Int) / (g : Int))]) (by simp [results, Tryz.results84, go_sem, t0, t1]) rfl ?_
  rw [HV.out]
  refine ⟨by simp, ?_⟩
  first | exact ((hb0.setCell (by simp) _).setCell (by simp) _).drew | exact (hb0.setCell (by simp) _).setCell (by simp) _
end Go.Proofs.YtedpnjbbcfiheaaGreatDoor

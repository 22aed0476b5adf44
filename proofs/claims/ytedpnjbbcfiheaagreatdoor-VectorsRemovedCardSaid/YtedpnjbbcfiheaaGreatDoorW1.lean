/- Walks of the stream's first methods: Below, Next, Range, Flip. -/
import Derived.Test.YtedpnjbbcfiheaaGreatDoorProg
import Derived.Test.YtedpnjbbcfiheaaGreatDoorL1
import Derived.Outline
import Derived.RowKit
import Derived.Deep.QuietTactic
import Derived.BigQuiet
import Derived.Lib.Hide
set_option linter.unusedVariables false
namespace Go.Proofs.YtedpnjbbcfiheaaGreatDoor
open Go.RowKit Go.Sc

abbrev TS : Nat := 25

theorem Below_any (x n : Int) (w : World) (_h0 : -9223372036854775808 ≤ x) (_h1 : x ≤ 9223372036854775807) (hn : n ≤ 4611686018427387904) :
    Calls Tryz.prog 102 #[.int .i64 x, .int .i64 n] w fun e w' => e = .returned (.int .i64 (belowN x n)) ∧ w = w' := by
  by_cases h : n < 1
  · go_enter Tryz.func102, Tryz.ntmps102
    go_wp2
    go_ret
    exact ⟨by simp [belowN, h], rfl⟩
  · have a1 := Int.tmod_lt_of_pos x (show 0 < n by omega)
    have a2 := Int.lt_tmod_of_pos x (show 0 < n by omega)
    have a3 := tmod_emod x n (by omega)
    have A3 := Lib.hid a3
    clear a3
    go_enter Tryz.func102, Tryz.ntmps102
    go_wp2
    · have hx : x.tmod n < 0 := by assumption
      go_ret
      refine ⟨?_, rfl⟩
      refine ret_int ?_
      have := A3.out
      rw [if_pos hx] at this
      rw [belowN, if_neg (by omega), this]
    · have hx : ¬ x.tmod n < 0 := by omega
      go_ret
      refine ⟨?_, rfl⟩
      refine ret_int ?_
      have := A3.out
      rw [if_neg hx] at this
      rw [belowN, if_neg (by omega), this]

theorem Next_any (g : Nat) (xs : List Int) (a n : Int) (w : World) (hs : Strm TS w g xs a) (ha : a < 1000000000) (hn1 : 1 ≤ n) (hn : n ≤ 4611686018427387904) :
    Calls Tryz.prog 52 #[.pointer (some ⟨g, 0, none⟩), .int .i64 n] w fun e w' => e = .returned (.int .i64 (nx xs a n)) ∧ Strm TS w' g xs (a + 1) ∧ w.grownBy w' (some g) := by
  have hfin : Strm TS (w.setCell ⟨g, 1, none⟩ (.int .i64 (a + 1))) g xs (a + 1) ∧ w.grownBy (w.setCell ⟨g, 1, none⟩ (.int .i64 (a + 1))) (some g) :=
    ⟨hs.step (by have := hs.lo; omega) (by omega), gb_setCell (gb_refl w _) (.inl rfl) _⟩
  obtain ⟨⟨A, c, hb, hc⟩, h2, h3, h4, h5⟩ := hs
  have hg : w.cell? ⟨g, 0, none⟩ = some (.slice A xs.length c) := by simp [World.cell?, hb]
  have hg1 : w.cell? ⟨g, 1, none⟩ = some (.int .i64 a) := by simp [World.cell?, hb]
  have hfr : w.frozen? ⟨g, 1, none⟩ = false := by simp [World.frozen?, hb]
  clear hb
  generalize hlen : xs.length = len at *
  have HL := Lib.hid hlen
  clear hlen
  have HF := Lib.hid hfin
  clear hfin
  by_cases hl : len = 0
  · have HX : Hid (nx xs a n = belowN ((a + 1) * 7919) n) := by simp [Hid, nx, HL.out, hl]
    clear h3 hc
    obtain rfl : len = 0 := hl
    go_enter Tryz.func52, Tryz.ntmps52
    go_wp2_with fail
    refine (Below_any _ _ _ (by omega) (by omega) (by omega)).mono ?_
    rintro e w' ⟨rfl, rfl⟩
    go_wp2
    go_ret
    exact ⟨ret_int HX.out.symm, HF.out⟩
  · have hl0 : ((len : Int) == 0) = false := by simp [hl]
    have hpos : (1 : Int) ≤ len := by omega
    obtain ⟨b, off, rfl, hne, hcell⟩ := hc (by omega)
    have q0 : 0 ≤ a % (len : Int) := Int.emod_nonneg _ (fun e => by rw [e] at hpos; exact absurd hpos (by decide))
    have q1 : a % (len : Int) < len := Int.emod_lt_of_pos _ (Int.lt_of_lt_of_le (by decide) hpos)
    obtain ⟨r0, r1⟩ := round_bd a len h4 h5 hpos
    have d0 : 0 ≤ a / (len : Int) := Int.ediv_nonneg h4 (Int.le_trans (by decide) hpos)
    have d1 : a / (len : Int) ≤ 1000000000 := Int.le_trans (Int.ediv_le_self _ h4) h5
    obtain ⟨x, hx⟩ : ∃ x, x = xs.getD (a % (len : Int)).toNat 0 := ⟨_, rfl⟩
    have hc1 : ∀ u, (w.setCell ⟨g, 1, none⟩ u).cell? ⟨b, off + (a % (len : Int)).toNat, none⟩ = some (.int .i64 x) := fun u => by
      rw [hx]; exact (World.cell?_of_block (w := w) (Below.heap_setCell _ _ _ _ (by show b ≠ g; omega))).trans (hcell _ (by omega))
    have hw : -9223372036854775808 ≤ x ∧ x ≤ 9223372036854775807 := by
      have hm : (a % (len : Int)).toNat < xs.length := by rw [HL.out]; omega
      have : xs.getD (a % (len : Int)).toNat 0 = xs[(a % (len : Int)).toNat] := by simp [List.getD_eq_getElem?_getD, hm]
      rw [hx, this]
      exact h3 _ (List.getElem_mem _)
    obtain ⟨hw0, hw1⟩ := hw
    have HX : Hid (nx xs a n = belowN (belowN x 1073741824 + a / (len : Int) * (7919 + a % (len : Int))) n) := by
      show nx xs a n = _
      unfold nx
      rw [HL.out, if_neg hl, ← hx]
    clear hx h3 hc hcell
    go_enter Tryz.func52, Tryz.ntmps52
    go_wp2_with fail
    go_quiet (fail)
    go_wp2_with fail
    go_quiet (fail)
    go_wp2_with fail
    refine (Below_any _ _ _ (by omega) (by omega) (by omega)).mono ?_
    rintro e w' ⟨rfl, rfl⟩
    have b0 := belowN_lo x 1073741824
    have b1 := belowN_lt x 1073741824 (by omega)
    generalize hbb : belowN x 1073741824 = y at *
    have HB := Lib.hid hbb
    clear hbb
    go_wp2_with fail
    refine (Below_any _ _ _ (by omega) (by omega) (by omega)).mono ?_
    rintro e w' ⟨rfl, rfl⟩
    go_wp2
    go_ret
    exact ⟨ret_int HX.out.symm, (HF.out.1).drewN _, gb_drewN HF.out.2 _⟩
end Go.Proofs.YtedpnjbbcfiheaaGreatDoor

/- slices.Sort at few 64-bit numbers: what is there stays there. -/
import Derived.Test.YtedpnjbbcfiheaaGreatDoorW20
import Derived.BigQuiet
set_option linter.unusedVariables false
namespace Go.Proofs.YtedpnjbbcfiheaaGreatDoor
open Go.RowKit Go.Sc
theorem isNaN64_any (x : Nat) (w : World) : Calls Tryz.prog 234 #[.int .u64 (x : Int)] w fun e w' => e = .returned (.bool false) ∧ w' = w := by
  go_enter Tryz.func234, Tryz.ntmps234
  go_wp2
  go_ret
  exact ⟨by simp, rfl⟩
theorem Less64_any (x y : Nat) (w : World) : Calls Tryz.prog 196 #[.int .u64 (x : Int), .int .u64 (y : Int)] w fun e w' => e = .returned (.bool (decide (x < y))) ∧ w' = w := by
  go_enter Tryz.func196, Tryz.ntmps196
  go_wp2_with (go_at_call 234; refine (isNaN64_any _ _).mono ?_; rintro e w' ⟨rfl, rfl⟩)
  go_ret
  exact ⟨by simp, rfl⟩
def swpN (l : List Nat) (i k : Nat) : List Nat := (l.set i (l[k]?.getD 0)).set k (l[i]?.getD 0)
theorem swpN_len (l : List Nat) (i k : Nat) : (swpN l i k).length = l.length := by simp [swpN]
theorem swpN_perm (l : List Nat) (i k : Nat) (hi : i < l.length) (hk : k < l.length) : (swpN l i k).Perm l := by
  unfold swpN
  rw [List.getElem?_eq_getElem hi, List.getElem?_eq_getElem hk]
  exact List.set_set_perm hi hk
set_option maxRecDepth 100000 in
set_option maxHeartbeats 1000000 in
theorem insort_any (base g n cap : Nat) (rs : List Nat) (w : World) (hown : w.ownsRow base 73 1 (.slice (some ⟨g, 0, none⟩) n cap) n (u64s rs)) (hn : n ≤ 12) :
    Calls Tryz.prog 190 #[.slice (some ⟨g, 0, none⟩) n cap, .int .i64 0, .int .i64 n] w fun e w' => e = .returned (.tuple #[]) ∧ ∃ l : List Nat, l.Perm rs ∧ w'.ownsRow base 73 1 (.slice (some ⟨g, 0, none⟩) n cap) n (u64s l) ∧ w.grownBy w' (some g) := by
  go_enter Tryz.func190, Tryz.ntmps190
  go_wp2_with fail
  go_loopw [6] (fun i wr => ∃ (k : Nat) (l : List Nat), k ≤ 13 ∧ i = .int .i64 k ∧ Hid (l.Perm rs) ∧ wr.ownsRow base 73 1 (.slice (some ⟨g, 0, none⟩) n cap) n (u64s l) ∧ w.grownBy wr (some g)) (fun i _ => 13 - (intOf i).toNat)
  case atStart => exact ⟨1, rs, by omega, rfl, List.Perm.refl _, hown, gb_refl _ _⟩
  case round =>
    obtain ⟨k, l, hk, rfl, HP, hown, hgb⟩ := hrel
    by_cases hlt : k < n
    · obtain ⟨w5, hw5⟩ : ∃ w5, w5 = wr := ⟨_, rfl⟩
      rw [← hw5] at hown hgb ⊢
      clear hw5
      go_wp2_with fail
      go_loopw [7] (fun j wr => ∃ (m : Nat) (l : List Nat), m ≤ k ∧ j = .int .i64 m ∧ Hid (l.Perm rs) ∧ wr.ownsRow base 73 1 (.slice (some ⟨g, 0, none⟩) n cap) n (u64s l) ∧ w.grownBy wr (some g)) (fun j _ => (intOf j).toNat)
      case atStart => exact ⟨k, l, by omega, rfl, HP, hown, hgb⟩
      case round =>
        obtain ⟨m, l, hm, rfl, HP, hown, hgb⟩ := hrel
        by_cases hm0 : 0 < m
        · obtain ⟨m, rfl⟩ : ∃ m', m = m' + 1 := ⟨m - 1, by omega⟩
          have i1 := own_cell_u64 hown (m + 1) (by omega)
          have i2 := own_cell_u64 hown m (by omega)
          have hll : l.length = n := by have := hown.1; simpa [u64s] using this
          have HLL := Lib.hid hll
          clear hll
          have HJ : Hid (((m + 1 : Nat) : Int) - 1 = (m : Int)) := by show _ = _; omega
          have hd : decide (0 < m + 1) = true := by simp
          have HSW : Hid (swpN l (m + 1) m = (l.set (m + 1) (l[m]?.getD 0)).set m (l[m + 1]?.getD 0)) := rfl
          have HPS : Hid ((swpN l (m + 1) m).Perm rs) := (swpN_perm l (m + 1) m (by rw [HLL.out]; omega) (by rw [HLL.out]; omega)).trans HP.out
          have hfz := hown.frozenAt
          generalize l[m + 1]?.getD 0 = x at *
          generalize l[m]?.getD 0 = y at *
          by_cases hc : x < y
          · have hcd : decide (x < y) = true := by simpa using hc
            go_upto_region 4 with fail
            go_cut [30] from 16 to 30 (fun v wx => v = .bool true ∧ wx.ownsRow base 73 1 (.slice (some ⟨g, 0, none⟩) n cap) n (u64s l) ∧ w.grownBy wx (some g) ∧ wx.cell? ⟨g, m + 1, none⟩ = some (.int .u64 (x : Int)) ∧ wx.cell? ⟨g, m, none⟩ = some (.int .u64 (y : Int)))
            case first =>
              go_quiet ((go_at_call 196; exact Calls.quiet_of_same (Less64_any _ _ _)))
              go_wp2_with fail
              go_meet
              exact ⟨rfl, hown, gb_drewN hgb _, i1, i2⟩
            case rest =>
              obtain ⟨rfl, hown2, hgb2, j1, j2⟩ := hcut
              clear hown hgb i1 i2 hfz
              have f1 := fun j => hown2.frozenAt j
              have o1 := own_set_u64 hown2 (m + 1) y
              have i3 := own_cell_u64 o1 m (by omega)
              have o2 := own_set_u64 o1 m x
              have hg4 : w.grownBy ((wc.setCell ⟨g, m + 1, none⟩ (.int .u64 (y : Int))).setCell ⟨g, m, none⟩ (.int .u64 (x : Int))) (some g) := gb_setCell (gb_setCell hgb2 (.inl rfl) _) (.inl rfl) _
              go_wp2_with fail
              go_region
              go_wp2_with fail
              go_roundw
              case rel => exact ⟨m, _, by omega, by go_num, HPS, by rw [HSW.out]; exact o2, gb_drewN hg4 1⟩
              case measure => simp [intOf]
          · have hcd : decide (x < y) = false := by simpa using hc
            go_upto_region 4 with fail
            go_cut [30] from 16 to 30 (fun v wx => v = .bool false ∧ wx.ownsRow base 73 1 (.slice (some ⟨g, 0, none⟩) n cap) n (u64s l) ∧ w.grownBy wx (some g))
            case first =>
              go_quiet ((go_at_call 196; exact Calls.quiet_of_same (Less64_any _ _ _)))
              go_wp2_with fail
              go_meet
              exact ⟨rfl, hown, gb_drewN hgb _⟩
            case rest =>
              obtain ⟨rfl, hown2, hgb2⟩ := hcut
              clear hown hgb i1 i2 hfz
              go_wp2_with fail
              go_roundw
              case rel => exact ⟨k + 1, l, by omega, by go_num, HP, hown2, hgb2⟩
              case measure => simp [intOf]; omega
        · obtain rfl : m = 0 := by omega
          go_upto_region 4 with fail
          go_cut [30] from 16 to 30 (fun v wx => v = .bool false ∧ wx.ownsRow base 73 1 (.slice (some ⟨g, 0, none⟩) n cap) n (u64s l) ∧ w.grownBy wx (some g))
          case first =>
            go_quiet (fail)
            go_wp2_with fail
            go_meet
            exact ⟨rfl, hown, gb_drewN hgb _⟩
          case rest =>
            obtain ⟨rfl, hown2, hgb2⟩ := hcut
            clear hown hgb
            go_wp2_with fail
            go_roundw
            case rel => exact ⟨k + 1, l, by omega, by go_num, HP, hown2, hgb2⟩
            case measure => simp [intOf]; omega
    · go_wp2_with fail
      go_end0
      exact ⟨rfl, l, HP.out, hown, hgb⟩
set_option maxRecDepth 100000 in
theorem pdq_any (base g n cap : Nat) (rs : List Nat) (lim : Int) (w : World) (hown : w.ownsRow base 73 1 (.slice (some ⟨g, 0, none⟩) n cap) n (u64s rs)) (hn : n ≤ 12) :
    Calls Tryz.prog 163 #[.slice (some ⟨g, 0, none⟩) n cap, .int .i64 0, .int .i64 n, .int .i64 lim] w fun e w' => e = .returned (.tuple #[]) ∧ ∃ l : List Nat, l.Perm rs ∧ w'.ownsRow base 73 1 (.slice (some ⟨g, 0, none⟩) n cap) n (u64s l) ∧ w.grownBy w' (some g) := by
  have HI := Lib.hid (insort_any base g n cap rs w hown hn)
  go_enter Tryz.func163, Tryz.ntmps163
  go_wp2_with fail
  refine wp_loop_rounds 1 ?_
  rw [rounds_succ]
  go_wp2_with (go_at_call 190; refine HI.out.mono ?_; rintro e w1 ⟨rfl, l, hp, hown1, hg1⟩)
  refine bodyPost_ret (results_none rfl _ _ _) rfl ?_
  exact ⟨rfl, l, hp, hown1, hg1⟩
set_option maxRecDepth 100000 in
theorem Sort64_any (base g n cap : Nat) (rs : List Nat) (w : World) (hown : w.ownsRow base 73 1 (.slice (some ⟨g, 0, none⟩) n cap) n (u64s rs)) (hn : n ≤ 12) :
    Calls Tryz.prog 115 #[.slice (some ⟨g, 0, none⟩) n cap] w fun e w' => e = .returned (.tuple #[]) ∧ ∃ l : List Nat, l.Perm rs ∧ w'.ownsRow base 73 1 (.slice (some ⟨g, 0, none⟩) n cap) n (u64s l) ∧ w.grownBy w' (some g) := by
  have HI := fun lim : Int => pdq_any base g n cap rs lim w hown hn
  have HJ := Lib.hid HI
  clear HI
  go_enter Tryz.func115, Tryz.ntmps115
  go_wp2_with fail
  refine (Tryz.bits_Len _ _ (by omega) (by omega)).mono ?_
  rintro e w1 ⟨rfl, rfl⟩
  go_wp2_with fail
  refine (HJ.out _).mono ?_
  rintro e w1 ⟨rfl, l, hp, hown1, hg1⟩
  go_wp2_with fail
  go_end0
  exact ⟨rfl, l, hp, hown1, hg1⟩
end Go.Proofs.YtedpnjbbcfiheaaGreatDoor

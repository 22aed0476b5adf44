/- Walk of Order. -/
import Derived.Test.YtedpnjbbcfiheaaGreatDoorW2
set_option linter.unusedVariables false
namespace Go.Proofs.YtedpnjbbcfiheaaGreatDoor
open Go.RowKit Go.Sc

def swp (l : List Int) (i k : Nat) : List Int := (l.set i (l[k]?.getD 0)).set k (l[i]?.getD 0)
def ordL (xs : List Int) : Nat → Int → List Int → List Int
  | 0, _, out => out
  | i + 1, a, out => ordL xs i (a + 1) (swp out (i + 1) (nx xs a (i + 2)).toNat)
def iota (n : Nat) : List Int := (List.range n).map Int.ofNat
def ordN (xs : List Int) (a : Int) (n : Nat) : List Int := ordL xs (n - 1) a (iota n)
theorem iota_succ (n : Nat) : iota (n + 1) = iota n ++ [(n : Int)] := by simp only [iota, List.range_succ, List.map_append]; rfl
theorem iota_len (n : Nat) : (iota n).length = n := by simp [iota]
theorem swp_len (l : List Int) (i k : Nat) : (swp l i k).length = l.length := by simp [swp]

theorem info3 : (Tryz.prog.info? 3).map (fun i => (i.zero, i.size, i.bytes)) = some (some (.int .i64 0), 1, 8) := by kernel_rfl

set_option maxRecDepth 100000 in
set_option maxHeartbeats 1000000 in
theorem Order_any (g : Nat) (xs : List Int) (a : Int) (n : Nat) (w : World) (hs : Strm TS w g xs a) (ha : a + n < 1000000000) (h1 : 1 ≤ n) (h2 : n ≤ 1000) :
    Calls Tryz.prog 109 #[.pointer (some ⟨g, 0, none⟩), .int .i64 n] w fun e w' => ∃ v, e = .returned v ∧ w'.ownsRow w.heap.size 3 1 v n ((ordN xs a n).map (.int .i64)) ∧ Strm TS w' g xs (a + n - 1) ∧ w.grownBy w' (some g) := by
  obtain ⟨i0, hi, hz0, hz1, hz2⟩ := info_parts info3
  have hgl := hs.lt
  go_enter Tryz.func109, Tryz.ntmps109
  go_wp2
  go_loopw [5, 10] (fun v i wr => ∃ k : Nat, k ≤ n ∧ i = .int .i64 k ∧ wr.ownsRow w.heap.size 3 1 v k ((iota k).map (.int .i64)) ∧ Below w.heap.size w wr) (fun _ i _ => n - (intOf i).toNat)
  case atStart => exact ⟨0, by omega, rfl, World.ownsRow_nil _ _ _ _, Below.refl _ _⟩
  case round =>
    obtain ⟨k, hk, rfl, hown, hbel⟩ := hrel
    by_cases hlt : k < n
    · have hsz := hbel.size
      go_wp2_with (at_builtin; go_loud (refine app w.heap.size rfl _ _ 22 3 (.int .i64 0) 1 8 rfl Tryz.underlying22 info3 rfl (by decide) (by decide) _ _ _ hown _ 1 rfl rfl rfl (by simp [Value.oneCell']) hsz (by omega) ?_; intro v1 w1 hown1 hg1 hat))
      go_roundw
      case rel => exact ⟨k + 1, by omega, by go_num, by rw [iota_succ]; simpa using hown1, hbel.grown hg1 hsz (fun j hj => (own_lt hown hj).1)⟩
      case measure => simp [intOf]; omega
    · obtain rfl : k = n := by omega
      have hgb := gb_of_below hbel (some g)
      have hst := hs.below hbel
      obtain ⟨g1, cap, hv, hgb1, hglt⟩ := hown.form (by omega)
      obtain rfl := hv
      have hgg : g ≠ g1 := by omega
      have HE : Hid (ordL xs (k - 1) a (iota k) = ordN xs a k) := rfl
      have HL : Hid ((iota k).length = k) := iota_len k
      generalize iota k = l0 at *
      clear hbel
      go_wp2
      go_loopw [7] (fun i wr2 => ∃ (m : Nat) (b : Int) (l : List Int), m < k ∧ i = .int .i64 m ∧ Hid (ordL xs m b l = ordN xs a k ∧ b + m = a + k - 1) ∧ a ≤ b ∧ b + m < 1000000000 ∧ wr2.ownsRow w.heap.size 3 1 (.slice (some ⟨g1, 0, none⟩) k cap) k (l.map (.int .i64)) ∧ Strm TS wr2 g xs b ∧ w.grownBy wr2 (some g)) (fun i _ => (intOf i).toNat)
      case atStart => exact ⟨k - 1, a, l0, by omega, by go_num, ⟨HE.out, by omega⟩, by omega, by omega, hown, hst, hgb⟩
      case round =>
        obtain ⟨m, b, l, hm, rfl, HM, hab, hbm, hown2, hst2, hgb2⟩ := hrel
        clear hown hst hgb HE
        by_cases hm0 : 0 < m
        · have n0 := nx_lo xs b (m + 1)
          have n1 := nx_lt xs b (m + 1) (by omega)
          go_wp2_with (go_at_call 52; refine (Next_any g xs b _ _ hst2 (by omega) (by omega) (by omega)).mono ?_; rintro e w3 ⟨rfl, hst3, hg3⟩)
          have hown3 := own_grown hown2 hg3 (by intro j hj; simp at hj; subst hj; simp [Value.ownBlock]; omega)
          clear hown2 hst2
          have i1 := own_cell_int hown3 m (by omega)
          have i2 := own_cell_int hown3 (nx xs b (m + 1)).toNat (by omega)
          have f1 := fun j => hown3.frozenAt j
          have o1 := own_set_int hown3 m (l[(nx xs b (m + 1)).toNat]?.getD 0)
          have i3 := own_cell_int o1 (nx xs b (m + 1)).toNat (by omega)
          have o2 := own_set_int o1 (nx xs b (m + 1)).toNat (l[m]?.getD 0)
          have hg4 : w.grownBy ((w3.setCell ⟨g1, m, none⟩ (.int .i64 (l[(nx xs b (m + 1)).toNat]?.getD 0))).setCell ⟨g1, (nx xs b (m + 1)).toNat, none⟩ (.int .i64 (l[m]?.getD 0))) (some g) :=
            gb_setCell (gb_setCell (World.grownBy.trans' hgb2 hg3) (.inr hgb1) _) (.inr hgb1) _
          have hst4 := (hst3.far (p := ⟨g1, m, none⟩) (by show g < g1; omega) (.int .i64 (l[(nx xs b (m + 1)).toNat]?.getD 0))).far (p := ⟨g1, (nx xs b (m + 1)).toNat, none⟩) (by show g < g1; omega) (.int .i64 (l[m]?.getD 0))
          go_region
          obtain ⟨m', rfl⟩ : ∃ m', m = m' + 1 := ⟨m - 1, by omega⟩
          have HM' : Hid (ordL xs m' (b + 1) (swp l (m' + 1) (nx xs b ((m' + 1 : Nat) + 1)).toNat) = ordN xs a k ∧ b + 1 + m' = a + k - 1) := by
            obtain ⟨e1, e2⟩ := HM.out
            refine ⟨?_, by omega⟩
            rw [← e1]
            show _ = ordL xs m' (b + 1) (swp l (m' + 1) (nx xs b ((m' : Int) + 2)).toNat)
            rw [show ((m' + 1 : Nat) : Int) + 1 = (m' : Int) + 2 by omega]
          go_wp2
          go_roundw
          case rel => exact ⟨m', b + 1, _, by omega, by go_num, HM', by omega, by omega, o2, hst4.drewN 1, gb_drewN hg4 1⟩
          case measure => simp [intOf]
        · obtain rfl : m = 0 := by omega
          go_wp2
          go_ret
          obtain ⟨h1, h2⟩ := HM.out
          refine ⟨_, rfl, ?_, ?_, hgb2⟩
          · rw [← h1]; exact hown2
          · rw [show a + (k : Int) - 1 = b by omega]; exact hst2
end Go.Proofs.YtedpnjbbcfiheaaGreatDoor

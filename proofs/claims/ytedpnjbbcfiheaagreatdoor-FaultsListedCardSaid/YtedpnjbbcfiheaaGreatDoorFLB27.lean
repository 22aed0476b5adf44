import Derived.Test.YtedpnjbbcfiheaaGreatDoorFLB26
set_option linter.unusedSimpArgs false
set_option linter.unusedSectionVars false
set_option linter.unusedVariables false
/- Walk of the generator Kinds. -/
set_option linter.unusedVariables false
namespace Go.Proofs.YtedpnjbbcfiheaaGreatDoor
open Go.RowKit Go.Sc
def KindsP (w w' : World) (g : Nat) (xs : List Int) (a : Int) (v : Value) : Prop := ∃ (ks : List Int) (b : Int), ks.length ≤ 7 ∧ w'.ownsRow w.heap.size 3 1 v ks.length (ks.map (.int .i64)) ∧ Strm TS w' g xs b ∧ a ≤ b ∧ b ≤ a + 9 ∧ w.grownBy w' (some g)
set_option maxRecDepth 100000 in
set_option maxHeartbeats 1000000 in
theorem Kinds_any (g : Nat) (xs : List Int) (a : Int) (w : World) (hs : Strm TS w g xs a) (ha : a + 20 < 1000000000) :
    Calls Tryz.prog 21 #[.pointer (some ⟨g, 0, none⟩)] w fun e w' => ∃ v, e = .returned v ∧ KindsP w w' g xs a v := by
  have hgl := hs.lt
  have haa := hs.lo
  go_enter Tryz.func21, Tryz.ntmps21
  go_wp2_with fail
  go_loopw [3, 4] (fun v i wr => ∃ (k : Nat) (ks : List Int) (b : Int), 1 ≤ k ∧ k ≤ 7 ∧ i = .int .i64 k ∧ ks.length ≤ k ∧ ks.length + 1 ≤ k ∧ wr.ownsRow w.heap.size 3 1 v ks.length (ks.map (.int .i64)) ∧ Strm TS wr g xs b ∧ a ≤ b ∧ b + 1 ≤ a + k ∧ w.grownBy wr (some g)) (fun _ i _ => 7 - (intOf i).toNat)
  case atStart => exact ⟨1, [], a, by omega, by omega, rfl, by simp, by simp, World.ownsRow_nil _ _ _ _, hs, by omega, by omega, gb_refl _ _⟩
  case round =>
    obtain ⟨k, ks, b, hk1, hk, rfl, hl1, hl2, hown, hst, hab, hbk, hgb⟩ := hrel
    by_cases hlt : k ≤ 6
    · go_wp2_with fail
      refine (Flip_any g xs b 2 _ hst (by omega) (by omega) (by omega)).mono ?_
      rintro e w2 ⟨rfl, hst2, hg2⟩
      have hgb2 := World.grownBy.trans' hgb hg2
      have hown2 := own_strm hown hg2 (by omega)
      have hsz := hgb2.size
      cases hf : (nx xs b 2 == 0)
      · go_wp2_with fail
        go_roundw
        case rel => exact ⟨k + 1, ks, b + 1, by omega, by omega, by go_num, by omega, by omega, hown2, hst2, by omega, by omega, hgb2⟩
        case measure => simp [intOf]; omega
      · go_wp2_with (at_builtin; refine app w.heap.size rfl _ _ 22 3 (.int .i64 0) 1 8 rfl Tryz.underlying22 info3 rfl (by decide) (by decide) _ _ _ hown2 _ 1 rfl rfl rfl (by simp [Value.oneCell']) hsz (by omega) ?_; intro v1 w8 hown1 hg1 hat)
        go_roundw
        case rel => exact ⟨k + 1, ks ++ [(k : Int)], b + 1, by omega, by omega, by go_num, by simp; omega, by simp; omega, by simpa using hown1, hst2.grown hg1 (fun j hj => by have := (own_lt hown2 hj).1; omega), by omega, by omega, gb_own hgb2 hg1 (fun j hj => (own_lt hown2 hj).1)⟩
        case measure => simp [intOf]; omega
    · obtain rfl : k = 7 := by omega
      go_wp2_with fail
      refine (Flip_any g xs b 12 _ hst (by omega) (by omega) (by omega)).mono ?_
      rintro e w2 ⟨rfl, hst2, hg2⟩
      have hgb2 := World.grownBy.trans' hgb hg2
      have hown2 := own_strm hown hg2 (by omega)
      cases hf : (nx xs b 12 == 0)
      · go_wp2_with fail
        go_ret
        exact ⟨_, rfl, ks, b + 1, by omega, hown2, hst2, by omega, by omega, hgb2⟩
      · go_wp2_with fail
        refine (Odd_any g xs (b + 1) 1 6 _ hst2 (by omega) (by omega) (by omega) (by omega)).mono ?_
        rintro e w3 ⟨rfl, hst3, hg3⟩
        have hgb3 := World.grownBy.trans' hgb2 hg3
        have hown3 := own_strm hown2 hg3 (by omega)
        have hsz := hgb3.size
        generalize oddN xs (b + 1) 1 6 = o at *
        go_wp2_with (at_builtin; refine app w.heap.size rfl _ _ 22 3 (.int .i64 0) 1 8 rfl Tryz.underlying22 info3 rfl (by decide) (by decide) _ _ _ hown3 _ 1 rfl rfl rfl (by simp [Value.oneCell']) hsz (by omega) ?_; intro v1 w8 hown1 hg1 hat)
        go_ret
        exact ⟨_, rfl, ks ++ [o], b + 1 + 2, by simp; omega, by simpa using hown1, hst3.grown hg1 (fun j hj => by have := (own_lt hown3 hj).1; omega), by omega, by omega, gb_own hgb3 hg1 (fun j hj => (own_lt hown3 hj).1)⟩
end Go.Proofs.YtedpnjbbcfiheaaGreatDoor

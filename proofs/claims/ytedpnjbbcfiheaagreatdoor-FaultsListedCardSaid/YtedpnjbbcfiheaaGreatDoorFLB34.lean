import Derived.Test.YtedpnjbbcfiheaaGreatDoorFLB33
set_option linter.unusedSimpArgs false
set_option linter.unusedSectionVars false
set_option linter.unusedVariables false
/- Walk of AllFault; how many single faults there are. -/
set_option linter.unusedVariables false
namespace Go.Proofs.YtedpnjbbcfiheaaGreatDoor
open Go.RowKit Go.Sc
def cntK (k : Int) (nets : Nat) : Nat := if k = 5 then nets * (nets - 1) else if outB k 3 5 = false then nets * (nets - 1) / 2 else nets
def cntKs (ks : List Int) (nets : Nat) : Nat := (ks.map fun k => cntK k nets).sum
theorem cntKs_take (ks : List Int) (nets j : Nat) (h : j < ks.length) : cntKs (ks.take (j + 1)) nets = cntKs (ks.take j) nets + cntK (ks[j]?.getD 0) nets := by
  unfold cntKs
  rw [take_getD ks 0 j h, List.map_append, List.sum_append]
  simp
theorem cntK_le (k : Int) (nets : Nat) (h : nets ≤ 100) : cntK k nets ≤ 10000 := by
  have h2 : nets * (nets - 1) ≤ 100 * 100 := Nat.mul_le_mul h (by omega)
  unfold cntK
  split
  · omega
  · split
    · omega
    · omega
theorem cntKs_le (ks : List Int) (nets j : Nat) (h : nets ≤ 100) : cntKs (ks.take j) nets ≤ j * 10000 := by
  induction j with
  | zero => simp [cntKs]
  | succ j ih =>
    rcases Nat.lt_or_ge j ks.length with hj | hj
    · rw [cntKs_take ks nets j hj]
      have := cntK_le (ks[j]?.getD 0) nets h
      omega
    · rw [List.take_of_length_le (by omega)]
      rw [List.take_of_length_le hj] at ih
      exact Nat.le_trans ih (Nat.mul_le_mul_right _ (Nat.le_succ _))
/-! ### the number of all single faults -/
theorem filter_gt (a : Nat) : ∀ m, ((List.range m).filter fun b => decide (a < b)).length = m - (a + 1)
  | 0 => by simp
  | m + 1 => by
    rw [List.range_succ, List.filter_append, List.length_append, filter_gt a m]
    by_cases h : a < m
    · simp [h]; omega
    · simp [h]; omega
theorem filter_ne (a : Nat) : ∀ m, ((List.range m).filter fun b => decide (a < b) || decide (b < a)).length = if a < m then m - 1 else m
  | 0 => by simp
  | m + 1 => by
    rw [List.range_succ, List.filter_append, List.length_append, filter_ne a m]
    rcases Nat.lt_trichotomy a m with h | h | h
    · rw [if_pos h, if_pos (by omega)]; simp [h]; omega
    · subst h; simp
    · rw [if_neg (by omega), if_neg (by omega)]; simp [h]
theorem oneA_num (k : Int) (nets a : Nat) (ha : a < nets) : (oneA k nets a nets).length = if k = 5 then nets - 1 else nets - (a + 1) := by
  unfold oneA condB
  rw [List.length_map]
  by_cases h : k = 5
  · rw [if_pos h]
    have := filter_ne a nets
    rw [if_pos ha] at this
    rw [← this]
    congr 1
    refine List.filter_congr fun b _ => ?_
    simp [h]
  · rw [if_neg h, ← filter_gt a nets]
    congr 1
    refine List.filter_congr fun b _ => ?_
    simp [h]
theorem half (m n : Nat) (h : m ≤ n) : 2 * ((List.range m).map fun a => n - (a + 1)).sum = m * (2 * n - m - 1) := by
  induction m with
  | zero => simp
  | succ m ih =>
    rw [List.range_succ, List.map_append, List.sum_append, Nat.mul_add, ih (by omega)]
    simp only [List.map_cons, List.map_nil, List.sum_cons, List.sum_nil, Nat.add_zero]
    obtain ⟨d, rfl⟩ : ∃ d, n = m + 1 + d := ⟨n - (m + 1), by omega⟩
    rw [show 2 * (m + 1 + d) - m - 1 = m + 1 + 2 * d by omega, show m + 1 + d - (m + 1) = d by omega, show 2 * (m + 1 + d) - (m + 1) - 1 = m + 2 * d by omega]
    rw [Nat.mul_add, Nat.mul_add, Nat.add_mul, Nat.mul_add, Nat.one_mul, Nat.mul_one]
    omega
theorem allK_num (k : Int) (nets : Nat) : (allK k nets nets).length = cntK k nets := by
  have key : ∀ m, m ≤ nets → (allK k nets m).length = if outB k 3 5 = true then m else if k = 5 then m * (nets - 1) else ((List.range m).map fun a => nets - (a + 1)).sum := by
    intro m
    induction m with
    | zero => intro _; simp [allK]
    | succ m ih =>
      intro hm
      rw [allK_succ, List.length_append, ih (by omega)]
      unfold oneK
      by_cases ho : outB k 3 5 = true
      · rw [if_pos ho, if_pos ho, if_pos ho]; rfl
      · rw [if_neg ho, if_neg ho, if_neg ho, oneA_num k nets m (by omega)]
        by_cases h5 : k = 5
        · rw [if_pos h5, if_pos h5, if_pos h5, Nat.add_mul, Nat.one_mul]
        · rw [if_neg h5, if_neg h5, if_neg h5, List.range_succ, List.map_append, List.sum_append]; simp
  rw [key nets (Nat.le_refl _)]
  unfold cntK
  by_cases h5 : k = 5
  · have : outB k 3 5 = false := by rw [outB_false]; omega
    rw [if_neg (by rw [this]; decide), if_pos h5, if_pos h5]
  · by_cases ho : outB k 3 5 = true
    · rw [if_pos ho, if_neg h5, if_neg (by rw [ho]; decide)]
    · have ho2 : outB k 3 5 = false := by simpa using ho
      rw [if_neg ho, if_neg h5, if_neg h5, if_pos ho2]
      have := half nets nets (Nat.le_refl _)
      rw [show 2 * nets - nets - 1 = nets - 1 by omega] at this
      omega
theorem allF_num (ks : List Int) (nets : Nat) : (allF ks nets).length = cntKs ks nets := by
  unfold allF cntKs
  induction ks with
  | nil => rfl
  | cons k ks ih => rw [List.flatMap_cons, List.length_append, ih, allK_num]; rfl
def allErr (nets : Int) (ks : List Int) : Int := if kfault nets ks = 0 then (if 20000 < cntKs ks nets.toNat then 2 else 0) else kfault nets ks
theorem kf_short {nets : Int} {ks : List Int} (h : kfault nets ks = 0) : ks.length ≤ 6 ∧ 1 ≤ nets ∧ nets ≤ 100 := by
  unfold kfault at h
  split at h
  · cases h
  · rename_i ho
    split at h
    · cases h
    · have := outB_false.1 (show outB nets 1 100 = false by simpa using ho)
      exact ⟨by omega, this⟩
end Go.Proofs.YtedpnjbbcfiheaaGreatDoor

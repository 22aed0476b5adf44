import Derived.Test.YtedpnjbbcfiheaaGreatDoorFLB08
import Derived.Test.YtedpnjbbcfiheaaGreatDoorFLB10
set_option linter.unusedSimpArgs false
set_option linter.unusedSectionVars false
set_option linter.unusedVariables false
/- Plain law: Needed, Reduced and Smallest answer as the reference does. -/
set_option linter.unusedVariables false
namespace Go.Proofs.YtedpnjbbcfiheaaGreatDoor
open Go.RowKit Go.Sc Go.Sort
theorem mask_facts {ss : List ByteArray} {fs : List (Int × List Int)} (h0 : lfault ss fs = 0) :
    (∀ m ∈ maskN ss fs, m < 2 ^ (ss.headD ByteArray.empty).size) ∧ catA ss fs = (maskN ss fs).map (fun m => bitsL m (ss.headD ByteArray.empty).size) ∧
    needC ss fs = (maskN ss fs).flatMap fun m => oneL (bitsL m (ss.headD ByteArray.empty).size) := by
  obtain ⟨t0, fl, fo⟩ := lfault_ok h0
  obtain ⟨l1, l2, hok, hz⟩ := tfault_ok t0
  have key : ∀ f ∈ fs, detN (rowsN ss) f.1 f.2 (onesN ((ss.headD ByteArray.empty).size : Int)) < 2 ^ (ss.headD ByteArray.empty).size ∧ catL ss f.1 f.2 = bitsL (detN (rowsN ss) f.1 f.2 (onesN ((ss.headD ByteArray.empty).size : Int))) (ss.headD ByteArray.empty).size := by
    intro f hf
    obtain ⟨_, _, k1, k6, _⟩ := ffault_ok (fo f hf)
    exact cat_eq ss f.1 f.2 _ hok hz rfl (FOk_of (fo f hf)) k1 k6
  refine ⟨?_, ?_, ?_⟩
  · intro m hm
    obtain ⟨f, hf, rfl⟩ := List.mem_map.1 hm
    exact (key f hf).1
  · unfold catA maskN
    rw [List.map_map]
    exact List.map_congr_left fun f hf => (key f hf).2
  · unfold needC maskN
    rw [List.flatMap_map]
    have : ∀ l : List (Int × List Int), (∀ f ∈ l, f ∈ fs) → (l.flatMap fun f => oneL (catL ss f.1 f.2)) = l.flatMap fun f => oneL (bitsL (detN (rowsN ss) f.1 f.2 (onesN ((ss.headD ByteArray.empty).size : Int))) (ss.headD ByteArray.empty).size) := by
      intro l
      induction l with
      | nil => intro _; rfl
      | cons f l ih =>
        intro h
        rw [List.flatMap_cons, List.flatMap_cons, ih fun x hx => h x (List.mem_cons_of_mem _ hx), (key f (h f (List.mem_cons_self ..))).2]
    exact this fs fun f hf => hf
theorem law_needed {ss : List ByteArray} {fs : List (Int × List Int)} (h0 : lfault ss fs = 0) (h64 : (ss.headD ByteArray.empty).size ≤ 64) :
    bitsL (needM (maskN ss fs)) (ss.headD ByteArray.empty).size = Lib.compact (sortZ (needC ss fs)) := by
  obtain ⟨m1, m2, m3⟩ := mask_facts h0
  rw [m3]
  exact needed_eq _ _ h64 m1
theorem law_reduced {ss : List ByteArray} {fs : List (Int × List Int)} (h0 : lfault ss fs = 0) (h64 : (ss.headD ByteArray.empty).size ≤ 64) :
    ss.map (pickB (redN (maskN ss fs) (ss.headD ByteArray.empty).size)) = ss.map (pickS (redL (catA ss fs) (ss.headD ByteArray.empty).size)) := by
  obtain ⟨m1, m2, m3⟩ := mask_facts h0
  obtain ⟨t0, fl, fo⟩ := lfault_ok h0
  obtain ⟨l1, l2, hok, hz⟩ := tfault_ok t0
  rw [m2, reduced_eq _ _ h64 m1]
  refine List.map_congr_left fun s hs => ?_
  have := hz s hs
  rw [pick_eq, this]
theorem law_smallest {ss : List ByteArray} {fs : List (Int × List Int)} (h0 : lfault ss fs = 0) (h64 : (ss.headD ByteArray.empty).size ≤ 64) :
    bitsL (smP (maskN ss fs) (ss.headD ByteArray.empty).size (2 ^ (ss.headD ByteArray.empty).size - 1)) (ss.headD ByteArray.empty).size = (smR (catA ss fs) (ss.headD ByteArray.empty).size (2 ^ (ss.headD ByteArray.empty).size)).2 := by
  obtain ⟨m1, m2, m3⟩ := mask_facts h0
  rw [m2]
  exact smallest_eq _ _ h64 m1
/-! ### the size of a test of the generator's -/
theorem row_mem {xs : List Int} {a : Int} {s : ByteArray} (h : s ∈ tRow xs a) : s.size ≤ 5 := by
  unfold tRow testG at h
  obtain ⟨i, _, rfl⟩ := List.mem_map.1 h
  rw [strB_size, rowG_len]
  exact tLong_le xs a
theorem long_size (xs : List Int) (c : Int) : (longS xs c).size ≤ 100 := by
  unfold longS
  rw [strB_size, List.length_append, repeatL_len, repeatL_len]
  have h1 := some3 xs c
  have h1' : (([strB [48], strB [49], strB [48, 49]].getD (nx xs c 3).toNat ByteArray.empty).data.toList).length ≤ 2 := by simpa using h1
  have n0 := nx_lt xs (c + 1) 2 (by omega)
  have n1 := nx_lo xs (c + 1) 2
  have n2 := nx_lt xs (c + 2) 33 (by omega)
  have n3 := nx_lo xs (c + 2) 33
  generalize ([strB [48], strB [49], strB [48, 49]].getD (nx xs c 3).toNat ByteArray.empty).data.toList.length = q at *
  have h2 : (32 + nx xs (c + 1) 2).toNat ≤ 33 := by omega
  have h3 : (nx xs (c + 2) 33).toNat ≤ 32 := by omega
  have h4 : (32 + nx xs (c + 1) 2).toNat * q ≤ 33 * 2 := Nat.mul_le_mul h2 h1'
  simp only [List.length_cons, List.length_nil]
  omega
theorem atest_size (xs : List Int) (a : Int) : ∀ s ∈ (atest xs a).1, s.size ≤ 100 := by
  intro s hs
  unfold atest at hs
  split at hs
  · rcases List.mem_or_eq_of_mem_set hs with h | h
    · have := row_mem h; omega
    · subst h
      rw [ByteArray.size_append]
      have h1 := some0x xs (tEnd xs a + 2)
      have h2 : ((tRow xs a)[(nx xs (tEnd xs a + 1) (tCnt xs a)).toNat]?.getD ByteArray.empty).size ≤ 5 := by
        cases h : (tRow xs a)[(nx xs (tEnd xs a + 1) (tCnt xs a)).toNat]? with
        | none => simp
        | some s => exact row_mem (List.mem_of_getElem? h)
      omega
  · split at hs
    · cases hs
    · split at hs
      · unfold longG at hs
        obtain ⟨i, _, rfl⟩ := List.mem_map.1 hs
        exact long_size _ _
      · have := row_mem hs; omega
theorem atest_len (xs : List Int) (a : Int) : (atest xs a).1.length ≤ 5 := by
  obtain ⟨c1, c2, _⟩ := tCnt_bd xs a
  have hr : (tRow xs a).length = tCnt xs a := by unfold tRow; exact testG_len _ _ _ _
  unfold atest
  split
  · rw [List.length_set]; omega
  · split
    · simp
    · split
      · rw [longG_len]; exact c2
      · show (tRow xs a).length ≤ 5; omega
theorem atest_end (xs : List Int) (a : Int) (h : 0 ≤ a) : a ≤ (atest xs a).2 ∧ (atest xs a).2 ≤ a + 100 := by
  obtain ⟨c1, c2, _⟩ := tCnt_bd xs a
  have hl := tLong_le xs a
  have hm : tCnt xs a * tLong xs a ≤ 5 * 5 := Nat.mul_le_mul c2 hl
  have he : a + 2 ≤ tEnd xs a ∧ tEnd xs a ≤ a + 27 := by unfold tEnd; omega
  unfold atest
  split
  · show a ≤ tEnd xs a + 3 ∧ tEnd xs a + 3 ≤ a + 100; omega
  · split
    · show a ≤ tEnd xs a + 2 ∧ tEnd xs a + 2 ≤ a + 100; omega
    · split
      · show a ≤ tEnd xs a + 3 + 3 * (tCnt xs a : Int) ∧ tEnd xs a + 3 + 3 * (tCnt xs a : Int) ≤ a + 100; omega
      · show a ≤ tEnd xs a + 3 ∧ tEnd xs a + 3 ≤ a + 100; omega
end Go.Proofs.YtedpnjbbcfiheaaGreatDoor

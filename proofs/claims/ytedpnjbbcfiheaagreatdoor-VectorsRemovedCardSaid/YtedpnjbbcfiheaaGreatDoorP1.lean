/- Plain laws on masks: the program's answers (numbers whose bits are vectors) are the reference's (lists of vectors). -/
import Derived.Test.YtedpnjbbcfiheaaGreatDoorW20
set_option linter.unusedVariables false
namespace Go.Proofs.YtedpnjbbcfiheaaGreatDoor
open Go.RowKit Go.Sc Go.Sort
theorem mem_bitsL (m z : Nat) (x : Int) : x ∈ bitsL m z ↔ ∃ i : Nat, i < z ∧ m.testBit i = true ∧ x = i := by
  unfold bitsL
  simp only [List.mem_map, List.mem_filter, List.mem_range]
  constructor
  · rintro ⟨i, ⟨h1, h2⟩, rfl⟩; exact ⟨i, h1, h2, rfl⟩
  · rintro ⟨i, h1, h2, rfl⟩; exact ⟨i, ⟨h1, h2⟩, rfl⟩
theorem bitsL_sorted (m z : Nat) : (bitsL m z).Pairwise (· < ·) := by
  unfold bitsL
  rw [List.pairwise_map]
  refine List.Pairwise.imp (fun h => ?_) (List.Pairwise.filter _ (List.pairwise_lt_range))
  exact Int.ofNat_lt.2 h
theorem sorted_ext : ∀ (a b : List Int), a.Pairwise (· < ·) → b.Pairwise (· < ·) → (∀ x, x ∈ a ↔ x ∈ b) → a = b
  | [], [], _, _, _ => rfl
  | [], y :: b, _, _, h => by have := (h y).2 (List.mem_cons_self ..); simp at this
  | x :: a, [], _, _, h => by have := (h x).1 (List.mem_cons_self ..); simp at this
  | x :: a, y :: b, ha, hb, h => by
    have ha1 := (List.pairwise_cons.1 ha).1
    have hb1 := (List.pairwise_cons.1 hb).1
    have hxy : x = y := by
      rcases List.mem_cons.1 ((h x).1 (List.mem_cons_self ..)) with e | h1
      · exact e
      · rcases List.mem_cons.1 ((h y).2 (List.mem_cons_self ..)) with e | h2
        · exact e.symm
        · have := hb1 x h1; have := ha1 y h2; omega
    subst hxy
    rw [sorted_ext a b (List.pairwise_cons.1 ha).2 (List.pairwise_cons.1 hb).2]
    intro v
    constructor
    · intro hv
      rcases List.mem_cons.1 ((h v).1 (List.mem_cons_of_mem _ hv)) with e | h'
      · have := ha1 v hv; omega
      · exact h'
    · intro hv
      rcases List.mem_cons.1 ((h v).2 (List.mem_cons_of_mem _ hv)) with e | h'
      · have := hb1 v hv; omega
      · exact h'
theorem compactUpTo_sorted {α : Type} [Inhabited α] [DecidableEq α] (lt le : α → α → Prop) (hlt : ∀ a b, le a b → a ≠ b → lt a b) (htr : ∀ a b c, le a b → lt b c → lt a c) (d : Array α) (hd : ∀ i j, i ≤ j → j < d.size → le d[i]! d[j]!) : ∀ m, m ≤ d.size → (Lib.compactUpTo d m).Pairwise lt ∧ ∀ x, x ∈ Lib.compactUpTo d m ↔ ∃ j, j < m ∧ x = d[j]!
  | 0, _ => by simp [Lib.compactUpTo]
  | m + 1, hm => by
    obtain ⟨h1, h2⟩ := compactUpTo_sorted lt le hlt htr d hd m (by omega)
    rw [Lib.compactUpTo_succ]
    by_cases hk : m = 0 ∨ d[m]! ≠ d[m - 1]!
    · have hkk : Lib.keeps d m = true := by simp only [Lib.keeps]; exact decide_eq_true hk
      rw [if_pos hkk]
      constructor
      · rw [List.pairwise_append]
        refine ⟨h1, by simp, ?_⟩
        intro x hx y hy
        obtain ⟨j, hj, rfl⟩ := (h2 x).1 hx
        have : y = d[m]! := by simpa using hy
        subst this
        have hne : d[m]! ≠ d[m - 1]! := hk.resolve_left (by omega)
        exact htr _ _ _ (hd j (m - 1) (by omega) (by omega)) (hlt _ _ (hd (m - 1) m (by omega) (by omega)) (fun e => hne e.symm))
      · intro x
        rw [List.mem_append, h2]
        constructor
        · rintro (⟨j, hj, rfl⟩ | hx)
          · exact ⟨j, by omega, rfl⟩
          · exact ⟨m, by omega, by simpa using hx⟩
        · rintro ⟨j, hj, rfl⟩
          by_cases e : j = m
          · right; subst e; simp
          · left; exact ⟨j, by omega, rfl⟩
    · have hkk : Lib.keeps d m = false := by simp only [Lib.keeps]; exact decide_eq_false hk
      rw [if_neg (by rw [hkk]; decide), List.append_nil]
      refine ⟨h1, fun x => ?_⟩
      rw [h2]
      have h0 : m ≠ 0 := fun e => hk (.inl e)
      have he : d[m]! = d[m - 1]! := Classical.byContradiction fun e => hk (.inr e)
      constructor
      · rintro ⟨j, hj, rfl⟩; exact ⟨j, by omega, rfl⟩
      · rintro ⟨j, hj, rfl⟩
        by_cases e : j = m
        · subst e; exact ⟨j - 1, by omega, he⟩
        · exact ⟨j, by omega, rfl⟩
theorem compact_sorted {α : Type} [Inhabited α] [DecidableEq α] (lt le : α → α → Prop) (hlt : ∀ a b, le a b → a ≠ b → lt a b) (htr : ∀ a b c, le a b → lt b c → lt a c) (hrf : ∀ a, le a a) (l : List α) (hl : l.Pairwise le) : (Lib.compact l).Pairwise lt ∧ ∀ x, x ∈ Lib.compact l ↔ x ∈ l := by
  have hd : ∀ i j, i ≤ j → j < l.toArray.size → le l.toArray[i]! l.toArray[j]! := by
    intro i j hij hj
    have hj' : j < l.length := by simpa using hj
    have e1 : l.toArray[i]! = l[i]'(by omega) := by rw [getElem!_pos l.toArray i (by simp; omega)]; rfl
    have e2 : l.toArray[j]! = l[j]'hj' := by rw [getElem!_pos l.toArray j hj]; rfl
    rw [e1, e2]
    by_cases e : i = j
    · subst e; exact hrf _
    · exact List.pairwise_iff_getElem.1 hl i j (by omega) hj' (by omega)
  obtain ⟨h1, h2⟩ := compactUpTo_sorted lt le hlt htr l.toArray hd l.length (by simp)
  refine ⟨h1, fun x => ?_⟩
  unfold Lib.compact
  rw [h2, List.mem_iff_getElem]
  constructor
  · rintro ⟨j, hj, rfl⟩; exact ⟨j, hj, by rw [getElem!_pos l.toArray j (by simpa using hj)]; rfl⟩
  · rintro ⟨j, hj, rfl⟩; exact ⟨j, hj, by rw [getElem!_pos l.toArray j (by simpa using hj)]; rfl⟩
theorem sortZ_mem (l : List Int) (x : Int) : x ∈ sortZ l ↔ x ∈ l := (List.mergeSort_perm l _).mem_iff
theorem sortZ_sorted (l : List Int) : (sortZ l).Pairwise (· ≤ ·) := by
  have := List.pairwise_mergeSort (le := fun x y : Int => decide (x ≤ y)) (fun a b c h1 h2 => by simp at h1 h2 ⊢; omega) (fun a b => by simp; omega) l
  exact this.imp fun h => by simpa using h
theorem compact_sortZ (l : List Int) : (Lib.compact (sortZ l)).Pairwise (· < ·) ∧ ∀ x, x ∈ Lib.compact (sortZ l) ↔ x ∈ l := by
  obtain ⟨h1, h2⟩ := compact_sorted (α := Int) (· < ·) (· ≤ ·) (fun a b h e => by omega) (fun a b c h1 h2 => by omega) (fun a => by omega) (sortZ l) (sortZ_sorted l)
  exact ⟨h1, fun x => (h2 x).trans (sortZ_mem l x)⟩

/-! ### numbers of bits -/
theorem popF_zero : ∀ n, popF n 0 = 0
  | 0 => rfl
  | n + 1 => by rw [popF]; simp [popF_zero n]
theorem popF_cut (z m : Nat) (hz : z ≤ 64) (h : m < 2 ^ z) : popF 64 m = popF z m := by
  have := popF_split z (64 - z) m 0 h
  rw [Nat.mul_zero, Nat.add_zero, popF_zero, Nat.add_zero, show z + (64 - z) = 64 by omega] at this
  exact this
theorem bitsL_count (z m : Nat) : (bitsL m z).length = popF z m := by rw [popF_filter, bitsL, List.length_map]
theorem bitsL_pop (z m : Nat) (hz : z ≤ 64) (h : m < 2 ^ z) : (bitsL m z).length = popF 64 m := by rw [popF_cut z m hz h, bitsL_count]

/-! ### Needed -/
theorem needM_bit (ms : List Nat) (i : Nat) : (needM ms).testBit i = ms.any fun m => decide (popF 64 m = 1) && m.testBit i := by
  have : ∀ (l : List Nat) (a : Nat), (l.foldl (fun a m => if popF 64 m = 1 then a ||| m else a) a).testBit i = (a.testBit i || l.any fun m => decide (popF 64 m = 1) && m.testBit i) := by
    intro l
    induction l with
    | nil => simp
    | cons m l ih =>
      intro a
      rw [List.foldl_cons, ih, List.any_cons]
      by_cases h : popF 64 m = 1
      · simp [h, Bool.or_assoc]
      · simp [h]
  have := this ms 0
  simpa [needM] using this
theorem needed_eq (ms : List Nat) (z : Nat) (hz : z ≤ 64) (h : ∀ m ∈ ms, m < 2 ^ z) : bitsL (needM ms) z = Lib.compact (sortZ (ms.flatMap fun m => oneL (bitsL m z))) := by
  obtain ⟨h1, h2⟩ := compact_sortZ (ms.flatMap fun m => oneL (bitsL m z))
  refine sorted_ext _ _ (bitsL_sorted _ _) h1 fun x => ?_
  rw [h2, mem_bitsL, List.mem_flatMap]
  constructor
  · rintro ⟨i, hi, hb, rfl⟩
    rw [needM_bit, List.any_eq_true] at hb
    obtain ⟨m, hm, hb⟩ := hb
    simp only [Bool.and_eq_true, decide_eq_true_eq] at hb
    refine ⟨m, hm, ?_⟩
    rw [oneL, if_pos (by rw [bitsL_pop z m hz (h m hm)]; exact hb.1), mem_bitsL]
    exact ⟨i, hi, hb.2, rfl⟩
  · rintro ⟨m, hm, hx⟩
    unfold oneL at hx
    split at hx
    · rename_i h3
      obtain ⟨i, hi, hb, rfl⟩ := (mem_bitsL m z x).1 hx
      refine ⟨i, hi, ?_, rfl⟩
      rw [needM_bit, List.any_eq_true]
      refine ⟨m, hm, ?_⟩
      rw [bitsL_pop z m hz (h m hm)] at h3
      simp [h3, hb]
    · cases hx

/-! ### enough, covers -/
theorem bit_lt {m z i : Nat} (h : m < 2 ^ z) (hb : m.testBit i = true) : i < z := by
  rcases Nat.lt_or_ge i z with h1 | h1
  · exact h1
  · rw [Nat.testBit_lt_two_pow (Nat.lt_of_lt_of_le h (Nat.pow_le_pow_right (by decide) h1))] at hb; cases hb
theorem ne0_bit {m : Nat} (h : m ≠ 0) : ∃ i, m.testBit i = true := Classical.byContradiction fun hn => h (Nat.eq_of_testBit_eq fun i => by
  rw [Nat.zero_testBit]
  cases hb : m.testBit i
  · rfl
  · exact absurd ⟨i, hb⟩ hn)
theorem miss_eq (k m z : Nat) (h : m < 2 ^ z) : missL (bitsL k z) (bitsL m z) = missB k m := by
  rw [Bool.eq_iff_iff]
  unfold missL missB
  simp only [Bool.and_eq_true, Bool.not_eq_true', bne_iff_ne, beq_iff_eq, ne_eq]
  refine and_congr ?_ ?_
  · constructor
    · rintro h1 rfl
      cases hb : bitsL 0 z with
      | nil => rw [hb] at h1; cases h1
      | cons x l =>
        have : x ∈ bitsL 0 z := by rw [hb]; exact List.mem_cons_self ..
        obtain ⟨i, _, h3, _⟩ := (mem_bitsL 0 z x).1 this
        simp at h3
    · intro h1
      obtain ⟨i, hi⟩ := ne0_bit h1
      have : (i : Int) ∈ bitsL m z := (mem_bitsL m z _).2 ⟨i, bit_lt h hi, hi, rfl⟩
      cases hb : bitsL m z with
      | nil => rw [hb] at this; cases this
      | cons x l => rfl
  · unfold anyF
    rw [List.any_eq_false]
    constructor
    · intro h1
      refine Classical.byContradiction fun h2 => ?_
      obtain ⟨i, hi⟩ := ne0_bit h2
      rw [Nat.testBit_and, Bool.and_eq_true] at hi
      refine h1 (i : Int) ((mem_bitsL m z _).2 ⟨i, bit_lt h hi.1, hi.1, rfl⟩) ?_
      unfold conB
      rw [List.contains_iff_mem]
      exact (mem_bitsL k z _).2 ⟨i, bit_lt h hi.1, hi.2, rfl⟩
    · intro h1 x hx h2
      unfold conB at h2
      rw [List.contains_iff_mem] at h2
      obtain ⟨i, hi, hb, rfl⟩ := (mem_bitsL m z x).1 hx
      obtain ⟨j, hj, hb2, e⟩ := (mem_bitsL k z _).1 h2
      have e : i = j := by omega
      subst e
      have : (m &&& k).testBit i = true := by rw [Nat.testBit_and, hb, hb2]; rfl
      rw [h1] at this
      simp at this
theorem cov_eq (ms : List Nat) (k z : Nat) (h : ∀ m ∈ ms, m < 2 ^ z) : covB (ms.map fun m => bitsL m z) (bitsL k z) = enoughB ms k := by
  unfold covB enoughB anyF
  rw [List.any_map, List.all_eq_not_any_not]
  congr 1
  have : ∀ (l : List Nat), (∀ m ∈ l, m < 2 ^ z) → l.any (missL (bitsL k z) ∘ fun m => bitsL m z) = l.any fun m => !!missB k m := by
    intro l
    induction l with
    | nil => simp
    | cons m l ih =>
      intro h
      rw [List.any_cons, List.any_cons, ih fun x hx => h x (List.mem_cons_of_mem _ hx)]
      congr 1
      rw [Bool.not_not]
      exact miss_eq k m z (h m (List.mem_cons_self ..))
  exact this ms h

/-! ### Reduced -/
theorem clear_bit (k i j : Nat) (hi : i < 64) (hj : j < 64) : (k &&& (18446744073709551615 - 2 ^ i)).testBit j = (k.testBit j && decide (j ≠ i)) := by
  have e : 18446744073709551615 - 2 ^ i = 2 ^ 64 - (2 ^ i + 1) := by
    have : (2 : Nat) ^ 64 = 18446744073709551616 := by decide
    omega
  rw [Nat.testBit_and, e, Nat.testBit_two_pow_sub_succ (Nat.pow_lt_pow_right (by decide) hi), Nat.testBit_two_pow]
  congr 1
  rw [show decide (j < 64) = true from decide_eq_true hj, Bool.true_and]
  by_cases h : i = j
  · subst h; simp
  · have : j ≠ i := fun e => h e.symm
    simp [h, this]
theorem drop_eq (k z i : Nat) (hz : z ≤ 64) (hi : i < z) : dropV (bitsL k z) i = bitsL (k &&& (18446744073709551615 - 2 ^ i)) z := by
  refine sorted_ext _ _ ((bitsL_sorted k z).filter _) (bitsL_sorted _ _) fun x => ?_
  unfold dropV
  rw [List.mem_filter, mem_bitsL, mem_bitsL]
  constructor
  · rintro ⟨⟨j, hj, hb, rfl⟩, h2⟩
    refine ⟨j, hj, ?_, rfl⟩
    rw [clear_bit k i j (by omega) (by omega), hb]
    have : (j : Int) ≠ (i : Int) := by simpa using h2
    have : j ≠ i := by omega
    simp [this]
  · rintro ⟨j, hj, hb, rfl⟩
    rw [clear_bit k i j (by omega) (by omega), Bool.and_eq_true] at hb
    refine ⟨⟨j, hj, hb.1, rfl⟩, ?_⟩
    have h2 : j ≠ i := by simpa using hb.2
    have h3 : (j : Int) ≠ (i : Int) := by omega
    simpa using h3
theorem red_eq (ms : List Nat) (z : Nat) (hz : z ≤ 64) (h : ∀ m ∈ ms, m < 2 ^ z) : ∀ (i k : Nat), i ≤ z → redD (ms.map fun m => bitsL m z) i (bitsL k z) = bitsL (redM ms i k) z
  | 0, k, _ => rfl
  | i + 1, k, hi => by
    rw [redD, redM, drop_eq k z i hz (by omega), cov_eq ms _ z h]
    split
    · exact red_eq ms z hz h i _ (by omega)
    · exact red_eq ms z hz h i _ (by omega)
theorem ones_bit (z j : Nat) : (onesN (z : Int)).testBit j = decide (j < z) := by
  unfold onesN
  rw [Int.toNat_natCast, Nat.testBit_two_pow_sub_one]
theorem iota_eq (z : Nat) : iota z = bitsL (onesN (z : Int)) z := by
  unfold iota bitsL
  rw [List.filter_eq_self.2 fun j hj => by rw [ones_bit]; exact decide_eq_true (List.mem_range.1 hj)]
theorem reduced_eq (ms : List Nat) (z : Nat) (hz : z ≤ 64) (h : ∀ m ∈ ms, m < 2 ^ z) : redL (ms.map fun m => bitsL m z) z = bitsL (redN ms z) z := by
  unfold redL redN
  rw [iota_eq]
  exact red_eq ms z hz h z _ (Nat.le_refl _)
theorem pick_eq (kept : Nat) (s : ByteArray) : pickB kept s = pickS (bitsL kept s.size) s := by
  unfold pickB pickS pickL pickTo bitsL
  rw [List.take_length, List.map_map]
  rfl
end Go.Proofs.YtedpnjbbcfiheaaGreatDoor

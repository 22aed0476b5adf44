import Derived.Test.YtedpnjbbcfiheaaGreatDoorFLB07
set_option linter.unusedSimpArgs false
set_option linter.unusedSectionVars false
set_option linter.unusedVariables false
/- Plain laws on masks: the smallest choice of vectors. -/
set_option linter.unusedVariables false
namespace Go.Proofs.YtedpnjbbcfiheaaGreatDoor
open Go.RowKit Go.Sc Go.Sort
def negN (d : Nat) : Nat := if d = 0 then 0 else 18446744073709551616 - d
/-- some is not tried: it has more vectors than the best, or as many and is not before it -/
def skipB (some best : Nat) : Bool := decide (popF 64 best < popF 64 some) || (decide (popF 64 some = popF 64 best) && (some &&& ((some ^^^ best) &&& negN (some ^^^ best))) == 0)
def smPs (ms : List Nat) (best some : Nat) : Nat := if skipB some best = true then best else if enoughB ms some = true then some else best
def smP (ms : List Nat) (z M : Nat) : Nat := (List.range M).foldl (smPs ms) (onesN (z : Int))
theorem smP_succ (ms : List Nat) (z M : Nat) : smP ms z (M + 1) = smPs ms (smP ms z M) M := by
  unfold smP
  rw [List.range_succ, List.foldl_append]
  simp only [List.foldl_cons, List.foldl_nil]

/-! ### the lowest bit in which two numbers differ -/
theorem low_bit : ∀ (i d : Nat), d ≠ 0 → ((d.testBit i = true ∧ (d - 1).testBit i = false) ↔ (d.testBit i = true ∧ ∀ j, j < i → d.testBit j = false))
  | 0, d, hd => by
    rw [Nat.testBit_zero, Nat.testBit_zero]
    constructor
    · rintro ⟨h, _⟩; exact ⟨h, fun j hj => by omega⟩
    · rintro ⟨h, _⟩
      refine ⟨h, ?_⟩
      have : d % 2 = 1 := by simpa using h
      simp; omega
  | i + 1, d, hd => by
    rw [Nat.testBit_succ, Nat.testBit_succ]
    by_cases h : d % 2 = 1
    · have e : (d - 1) / 2 = d / 2 := by omega
      rw [e]
      constructor
      · rintro ⟨h1, h2⟩; rw [h1] at h2; cases h2
      · rintro ⟨h1, h2⟩
        have := h2 0 (by omega)
        rw [Nat.testBit_zero] at this
        simp [h] at this
    · have e : (d - 1) / 2 = d / 2 - 1 := by omega
      rw [e, low_bit i (d / 2) (by omega)]
      refine and_congr_right fun h1 => ?_
      constructor
      · intro h2 j hj
        cases j with
        | zero => rw [Nat.testBit_zero]; simp; omega
        | succ j => rw [Nat.testBit_succ]; exact h2 j (by omega)
      · intro h2 j hj
        have := h2 (j + 1) (by omega)
        rwa [Nat.testBit_succ] at this
/-- the lowest bit in which two numbers differ is in the first one -/
def lexF : Nat → Nat → Nat → Bool
  | 0, _, _ => false
  | z + 1, a, b => if a % 2 = b % 2 then lexF z (a / 2) (b / 2) else decide (a % 2 = 1)
theorem lexF_bit : ∀ (z a b : Nat), lexF z a b = true ↔ ∃ i, i < z ∧ a.testBit i = true ∧ b.testBit i = false ∧ ∀ j, j < i → a.testBit j = b.testBit j
  | 0, a, b => by simp [lexF]
  | z + 1, a, b => by
    rw [lexF]
    split
    · rename_i h
      rw [lexF_bit z]
      constructor
      · rintro ⟨i, h1, h2, h3, h4⟩
        refine ⟨i + 1, by omega, by rw [Nat.testBit_succ]; exact h2, by rw [Nat.testBit_succ]; exact h3, fun j hj => ?_⟩
        cases j with
        | zero => rw [Nat.testBit_zero, Nat.testBit_zero, h]
        | succ j => rw [Nat.testBit_succ, Nat.testBit_succ]; exact h4 j (by omega)
      · rintro ⟨i, h1, h2, h3, h4⟩
        cases i with
        | zero => rw [Nat.testBit_zero] at h2 h3; rw [h] at h2; rw [h2] at h3; cases h3
        | succ i =>
          rw [Nat.testBit_succ] at h2 h3
          refine ⟨i, by omega, h2, h3, fun j hj => ?_⟩
          have := h4 (j + 1) (by omega)
          rwa [Nat.testBit_succ, Nat.testBit_succ] at this
    · rename_i h
      rw [decide_eq_true_eq]
      constructor
      · intro h1
        exact ⟨0, by omega, by rw [Nat.testBit_zero]; simpa using h1, by rw [Nat.testBit_zero]; simp; omega, fun j hj => by omega⟩
      · rintro ⟨i, h1, h2, h3, h4⟩
        cases i with
        | zero => rw [Nat.testBit_zero] at h2; simpa using h2
        | succ i =>
          have := h4 0 (by omega)
          rw [Nat.testBit_zero, Nat.testBit_zero] at this
          exfalso
          have : (a % 2 = 1) ↔ (b % 2 = 1) := by simpa using this
          omega
theorem low_eq (z a b : Nat) (hz : z ≤ 64) (ha : a < 2 ^ z) (hb : b < 2 ^ z) : ((a &&& ((a ^^^ b) &&& negN (a ^^^ b))) == 0) = !lexF z a b := by
  have e64 : (2 : Nat) ^ 64 = 18446744073709551616 := by decide
  have hz2 : 2 ^ z ≤ 2 ^ 64 := Nat.pow_le_pow_right (by decide) hz
  have hd : a ^^^ b < 2 ^ z := Nat.xor_lt_two_pow ha hb
  rw [Bool.eq_iff_iff, beq_iff_eq, Bool.not_eq_true', ← Bool.not_eq_true, lexF_bit]
  have hx : ∀ i, (a ^^^ b).testBit i = (a.testBit i != b.testBit i) := fun i => by rw [Nat.testBit_xor]
  by_cases h0 : a ^^^ b = 0
  · rw [h0]
    constructor
    · rintro _ ⟨i, h1, h2, h3, h4⟩
      have := hx i
      rw [h0, h2, h3, Nat.zero_testBit] at this
      cases this
    · intro _; simp
  · have hn : ∀ i, i < 64 → (negN (a ^^^ b)).testBit i = !((a ^^^ b) - 1).testBit i := by
      intro i hi
      rw [negN, if_neg h0, show 18446744073709551616 - (a ^^^ b) = 2 ^ 64 - (((a ^^^ b) - 1) + 1) by omega, Nat.testBit_two_pow_sub_succ (by omega)]
      simp [hi]
    have key : ∀ i, i < z → (((a ^^^ b) &&& negN (a ^^^ b)).testBit i = true ↔ ((a ^^^ b).testBit i = true ∧ ∀ j, j < i → (a ^^^ b).testBit j = false)) := by
      intro i hi
      rw [Nat.testBit_and, hn i (by omega), Bool.and_eq_true, ← low_bit i _ h0, Bool.not_eq_true']
    constructor
    · rintro h ⟨i, h1, h2, h3, h4⟩
      have h5 : (a &&& ((a ^^^ b) &&& negN (a ^^^ b))).testBit i = true := by
        rw [Nat.testBit_and, h2, Bool.true_and, key i h1, hx, h2, h3]
        exact ⟨rfl, fun j hj => by rw [hx, h4 j hj]; simp⟩
      rw [h] at h5
      simp at h5
    · intro h
      refine Classical.byContradiction fun h6 => ?_
      obtain ⟨i, hi⟩ := ne0_bit h6
      rw [Nat.testBit_and, Bool.and_eq_true] at hi
      have hiz := bit_lt ha hi.1
      obtain ⟨h7, h8⟩ := (key i hiz).1 hi.2
      refine h ⟨i, hiz, hi.1, ?_, fun j hj => ?_⟩
      · rw [hx, hi.1] at h7; simpa using h7
      · have := h8 j hj; rw [hx] at this; simpa using this

/-! ### the bits as a list, in the same spelling -/
def bitsF : Nat → Nat → Nat → List Int
  | _, 0, _ => []
  | o, z + 1, m => if m % 2 = 1 then (o : Int) :: bitsF (o + 1) z (m / 2) else bitsF (o + 1) z (m / 2)
theorem bitsF_eq : ∀ (z o m : Nat), bitsF o z m = ((List.range z).filter fun i => m.testBit i).map fun i => ((o + i : Nat) : Int)
  | 0, o, m => rfl
  | z + 1, o, m => by
    rw [bitsF, bitsF_eq z, List.range_succ_eq_map, List.filter_cons, List.filter_map, Nat.testBit_zero]
    have e : ((List.range z).filter ((fun i => m.testBit i) ∘ Nat.succ)) = (List.range z).filter fun i => (m / 2).testBit i := by
      congr 1
      funext i
      simp [Nat.testBit_succ]
    rw [e]
    by_cases h : m % 2 = 1
    · simp [h]
      intro a _ _; omega
    · simp [h]
      intro a _ _; omega
theorem bitsF_bitsL (m z : Nat) : bitsL m z = bitsF 0 z m := by
  rw [bitsF_eq]
  unfold bitsL
  congr 1
  funext i
  rw [Nat.zero_add]; rfl
theorem bitsF_len : ∀ (z o m : Nat), (bitsF o z m).length = popF z m
  | 0, _, _ => rfl
  | z + 1, o, m => by
    rw [bitsF, popF]
    split
    · rename_i h; rw [List.length_cons, bitsF_len z, h]; omega
    · rename_i h; rw [bitsF_len z]; omega
theorem bitsF_lo : ∀ (z o m : Nat), ∀ x ∈ bitsF o z m, (o : Int) ≤ x
  | 0, _, _, x, h => by cases h
  | z + 1, o, m, x, h => by
    rw [bitsF] at h
    split at h
    · rcases List.mem_cons.1 h with e | h
      · omega
      · have := bitsF_lo z _ _ x h; omega
    · have := bitsF_lo z _ _ x h; omega
theorem lex_eq : ∀ (z o a b : Nat), popF z a = popF z b → decide (cmpL (bitsF o z a) (bitsF o z b) < 0) = lexF z a b
  | 0, o, a, b, _ => rfl
  | z + 1, o, a, b, h => by
    rw [popF, popF] at h
    rw [bitsF, bitsF, lexF]
    have la := bitsF_len z (o + 1) (a / 2)
    have lb := bitsF_len z (o + 1) (b / 2)
    by_cases ha : a % 2 = 1
    · by_cases hb : b % 2 = 1
      · rw [if_pos ha, if_pos hb, if_pos (by omega), cmpL, if_pos (by simp [cmpZ]), lex_eq z (o + 1) _ _ (by omega)]
      · rw [if_pos ha, if_neg hb, if_neg (by omega)]
        cases hB : bitsF (o + 1) z (b / 2) with
        | nil => rw [hB] at lb; simp at lb; omega
        | cons y l =>
          have := bitsF_lo z (o + 1) (b / 2) y (by rw [hB]; exact List.mem_cons_self ..)
          have e : cmpZ (o : Int) y = -1 := by unfold cmpZ; rw [if_pos (by omega)]
          rw [cmpL, e]
          simp [ha]
    · by_cases hb : b % 2 = 1
      · rw [if_neg ha, if_pos hb, if_neg (by omega)]
        cases hA : bitsF (o + 1) z (a / 2) with
        | nil => rw [hA] at la; simp at la; omega
        | cons y l =>
          have := bitsF_lo z (o + 1) (a / 2) y (by rw [hA]; exact List.mem_cons_self ..)
          have e : cmpZ y (o : Int) = 1 := by unfold cmpZ; rw [if_neg (by omega), if_pos (by omega)]
          rw [cmpL, e]
          simp [ha]
      · rw [if_neg ha, if_neg hb, if_pos (by omega), lex_eq z (o + 1) _ _ (by omega)]

/-! ### an order of lists -/
theorem cmpZ_flip (x y : Int) : cmpZ y x = - cmpZ x y := by unfold cmpZ; split <;> split <;> (try split) <;> omega
theorem cmpL_flip : ∀ (u v : List Int), cmpL v u = - cmpL u v
  | [], [] => rfl
  | [], _ :: _ => rfl
  | _ :: _, [] => rfl
  | x :: u, y :: v => by
    rw [cmpL, cmpL, cmpZ_flip x y, cmpL_flip u v]
    by_cases h : cmpZ x y = 0
    · rw [if_pos h, if_pos (by omega)]
    · rw [if_neg h, if_neg (by omega)]
theorem cmpL_zero : ∀ (u v : List Int), cmpL u v = 0 → u = v
  | [], [], _ => rfl
  | [], _ :: _, h => by simp [cmpL] at h
  | _ :: _, [], h => by simp [cmpL] at h
  | x :: u, y :: v, h => by
    rw [cmpL] at h
    split at h
    · rename_i hz
      have : x = y := by unfold cmpZ at hz; split at hz; omega; split at hz <;> omega
      rw [this, cmpL_zero u v h]
    · rename_i hz; exact absurd h hz
theorem cmpL_trans : ∀ (u v w : List Int), cmpL u v < 0 → cmpL v w < 0 → cmpL u w < 0
  | [], [], w, h, _ => by simp [cmpL] at h
  | [], _ :: _, [], _, h => by simp [cmpL] at h
  | [], _ :: _, _ :: _, _, _ => by simp [cmpL]
  | _ :: _, [], w, h, _ => by simp [cmpL] at h
  | _ :: _, _ :: _, [], _, h => by simp [cmpL] at h
  | x :: u, y :: v, z :: w, h1, h2 => by
    rw [cmpL] at h1 h2 ⊢
    have t := cmpL_trans u v w
    have p1 : cmpZ x y = 0 ↔ x = y := by unfold cmpZ; split; omega; split <;> omega
    have p2 : cmpZ y z = 0 ↔ y = z := by unfold cmpZ; split; omega; split <;> omega
    have p3 : cmpZ x z = 0 ↔ x = z := by unfold cmpZ; split; omega; split <;> omega
    have q1 : cmpZ x y < 0 ↔ x < y := by unfold cmpZ; split; omega; split <;> omega
    have q2 : cmpZ y z < 0 ↔ y < z := by unfold cmpZ; split; omega; split <;> omega
    have q3 : cmpZ x z < 0 ↔ x < z := by unfold cmpZ; split; omega; split <;> omega
    by_cases e1 : x = y
    · rw [if_pos (p1.2 e1)] at h1
      by_cases e2 : y = z
      · rw [if_pos (p2.2 e2)] at h2
        rw [if_pos (p3.2 (e1.trans e2))]
        exact t h1 h2
      · rw [if_neg (fun e => e2 (p2.1 e))] at h2
        rw [if_neg (fun e => e2 (e1.symm.trans (p3.1 e)))]
        rw [q3]; have := q2.1 h2; omega
    · rw [if_neg (fun e => e1 (p1.1 e))] at h1
      have a1 := q1.1 h1
      by_cases e2 : y = z
      · rw [if_neg (fun e => e1 ((p3.1 e).trans e2.symm))]
        rw [q3]; omega
      · rw [if_neg (fun e => e2 (p2.1 e))] at h2
        have a2 := q2.1 h2
        rw [if_neg (fun e => by have := p3.1 e; omega), q3]; omega
/-- shorter, or as long and before it -/
def ltL (u v : List Int) : Prop := u.length < v.length ∨ (u.length = v.length ∧ cmpL u v < 0)
theorem ltL_trans {u v w : List Int} (h1 : ltL u v) (h2 : ltL v w) : ltL u w := by
  unfold ltL at *
  rcases h1 with h1 | ⟨h1, c1⟩ <;> rcases h2 with h2 | ⟨h2, c2⟩
  · left; omega
  · left; omega
  · left; omega
  · right; exact ⟨by omega, cmpL_trans _ _ _ c1 c2⟩
theorem ltL_tri {u v : List Int} (h1 : ¬ ltL u v) (h2 : ¬ ltL v u) : u = v := by
  unfold ltL at *
  have f := cmpL_flip u v
  have hl : u.length = v.length := Nat.le_antisymm (Nat.not_lt.1 fun h => h2 (.inl h)) (Nat.not_lt.1 fun h => h1 (.inl h))
  have c1 : ¬ cmpL u v < 0 := fun h => h1 (.inr ⟨hl, h⟩)
  have c2 : ¬ cmpL v u < 0 := fun h => h2 (.inr ⟨hl.symm, h⟩)
  exact cmpL_zero u v (by omega)
theorem ltL_irr (u : List Int) : ¬ ltL u u := by
  unfold ltL
  have := cmpL_flip u u
  rintro (h | ⟨_, h⟩) <;> omega
theorem skip_eq (z a b : Nat) (hz : z ≤ 64) (ha : a < 2 ^ z) (hb : b < 2 ^ z) : skipB a b = false ↔ ltL (bitsL a z) (bitsL b z) := by
  unfold skipB ltL
  rw [low_eq z a b hz ha hb, bitsL_pop z a hz ha, bitsL_pop z b hz hb, Bool.or_eq_false_iff, decide_eq_false_iff_not, Bool.and_eq_false_iff, decide_eq_false_iff_not, Bool.not_eq_false', bitsF_bitsL, bitsF_bitsL]
  rw [popF_cut z a hz ha, popF_cut z b hz hb]
  by_cases h : popF z a = popF z b
  · rw [← lex_eq z 0 a b h, decide_eq_true_eq]
    simp [h]
  · simp [h]; omega

/-! ### both are the least of all choices that are enough -/
/-- r is the least of the numbers in S that are enough -/
structure Least (ms : List Nat) (z : Nat) (S : Nat → Prop) (r : Nat) : Prop where
  mem : S r
  enough : enoughB ms r = true
  least : ∀ s, S s → enoughB ms s = true → ¬ ltL (bitsL s z) (bitsL r z)
theorem ones_val (z : Nat) : onesN (z : Int) = 2 ^ z - 1 := by unfold onesN; rw [Int.toNat_natCast]
theorem ones_enough (ms : List Nat) (z : Nat) (h : ∀ m ∈ ms, m < 2 ^ z) : enoughB ms (onesN (z : Int)) = true := by
  unfold enoughB
  rw [List.all_eq_true]
  intro m hm
  unfold missB
  rw [ones_val, Nat.and_two_pow_sub_one_eq_mod, Nat.mod_eq_of_lt (h m hm)]
  cases h0 : m == 0
  · simp
  · have : m = 0 := by simpa using h0
    simp [this]
theorem smP_least (ms : List Nat) (z : Nat) (hz : z ≤ 64) (h : ∀ m ∈ ms, m < 2 ^ z) : ∀ M, M ≤ 2 ^ z - 1 → Least ms z (fun s => s < M ∨ s = onesN (z : Int)) (smP ms z M)
  | 0, _ => ⟨.inr rfl, ones_enough ms z h, fun s hs _ => by
      rcases hs with hs | rfl
      · omega
      · exact ltL_irr _⟩
  | M + 1, hM => by
    have hp : 0 < 2 ^ z := Nat.two_pow_pos z
    have ih := smP_least ms z hz h M (by omega)
    have hr : smP ms z M < 2 ^ z := by
      rcases ih.mem with h1 | h1
      · omega
      · rw [h1, ones_val]; omega
    rw [smP_succ, smPs]
    split
    · rename_i hs
      refine ⟨ih.mem.imp (fun h1 => by omega) id, ih.enough, fun s h1 h2 => ?_⟩
      by_cases e : s = M
      · subst e
        intro hl
        rw [(skip_eq z s _ hz (by omega) hr).2 hl] at hs
        cases hs
      · exact ih.least s (h1.imp (fun h1 => by omega) id) h2
    · rename_i hs
      split
      · rename_i he
        have hl := (skip_eq z M _ hz (by omega) hr).1 (by simpa using hs)
        refine ⟨.inl (by omega), he, fun s h1 h2 h3 => ?_⟩
        by_cases e : s = M
        · subst e; exact ltL_irr _ h3
        · exact ih.least s (h1.imp (fun h1 => by omega) id) h2 (ltL_trans h3 hl)
      · rename_i he
        refine ⟨ih.mem.imp (fun h1 => by omega) id, ih.enough, fun s h1 h2 => ?_⟩
        by_cases e : s = M
        · subst e; exact absurd h2 he
        · exact ih.least s (h1.imp (fun h1 => by omega) id) h2
theorem smR_least (ms : List Nat) (z : Nat) (h : ∀ m ∈ ms, m < 2 ^ z) : ∀ M, ((smR (ms.map fun m => bitsL m z) z M).1 = false ∧ (smR (ms.map fun m => bitsL m z) z M).2 = [] ∧ ∀ s, s < M → enoughB ms s = false) ∨
    ((smR (ms.map fun m => bitsL m z) z M).1 = true ∧ ∃ r, (smR (ms.map fun m => bitsL m z) z M).2 = bitsL r z ∧ Least ms z (fun s => s < M) r)
  | 0 => .inl ⟨rfl, rfl, fun s hs => by omega⟩
  | M + 1 => by
    rw [smR_succ, smS, cov_eq ms M z h]
    rcases smR_least ms z h M with ⟨h1, h2, h3⟩ | ⟨h1, r, h2, h3⟩
    · by_cases he : enoughB ms M = true
      · rw [if_pos ⟨he, .inl h1⟩]
        refine .inr ⟨rfl, M, rfl, by show M < M + 1; omega, he, fun s h4 h5 h6 => ?_⟩
        by_cases e : s = M
        · subst e; exact ltL_irr _ h6
        · rw [h3 s (by omega)] at h5; cases h5
      · rw [if_neg fun h4 => he h4.1]
        refine .inl ⟨h1, h2, fun s hs => ?_⟩
        by_cases e : s = M
        · subst e; simpa using he
        · exact h3 s (by omega)
    · by_cases hc : enoughB ms M = true ∧ ltL (bitsL M z) (bitsL r z)
      · obtain ⟨he, hl⟩ := hc
        rw [if_pos ⟨he, .inr (by rw [h2]; exact hl)⟩]
        refine .inr ⟨rfl, M, rfl, by show M < M + 1; omega, he, fun s h4 h5 h6 => ?_⟩
        by_cases e : s = M
        · subst e; exact ltL_irr _ h6
        · exact h3.least s (by omega) h5 (ltL_trans h6 hl)
      · rw [if_neg fun h4 => by
          obtain ⟨he, h5⟩ := h4
          rw [h1, h2] at h5
          refine hc ⟨he, ?_⟩
          rcases h5 with h5 | h5
          · cases h5
          · exact h5]
        refine .inr ⟨h1, r, h2, by have := h3.mem; show r < M + 1; omega, h3.enough, fun s h4 h5 h6 => ?_⟩
        by_cases e : s = M
        · subst e; exact hc ⟨h5, h6⟩
        · exact h3.least s (by omega) h5 h6
theorem smallest_eq (ms : List Nat) (z : Nat) (hz : z ≤ 64) (h : ∀ m ∈ ms, m < 2 ^ z) : bitsL (smP ms z (2 ^ z - 1)) z = (smR (ms.map fun m => bitsL m z) z (2 ^ z)).2 := by
  have hp : 0 < 2 ^ z := Nat.two_pow_pos z
  have a := smP_least ms z hz h _ (Nat.le_refl _)
  have all : ∀ s, (s < 2 ^ z - 1 ∨ s = onesN (z : Int)) ↔ s < 2 ^ z := fun s => by rw [ones_val]; omega
  rcases smR_least ms z h (2 ^ z) with ⟨_, _, h3⟩ | ⟨_, r, h2, h3⟩
  · have := h3 (onesN (z : Int)) (by rw [ones_val]; omega)
    rw [ones_enough ms z h] at this
    cases this
  · rw [h2]
    exact ltL_tri (h3.least _ ((all _).1 a.mem) a.enough) (a.least _ ((all _).2 h3.mem) h3.enough)
/-- what is tried may be sorted and compact -/
theorem enough_congr (ms ns : List Nat) (k : Nat) (h : ∀ m, m ∈ ms ↔ m ∈ ns) : enoughB ms k = enoughB ns k := by
  unfold enoughB
  rw [Bool.eq_iff_iff, List.all_eq_true, List.all_eq_true]
  exact ⟨fun h1 m hm => h1 m ((h m).2 hm), fun h1 m hm => h1 m ((h m).1 hm)⟩
theorem smP_congr (ms ns : List Nat) (z M : Nat) (h : ∀ m, m ∈ ms ↔ m ∈ ns) : smP ms z M = smP ns z M := by
  have e : smPs ms = smPs ns := by
    funext b s
    unfold smPs
    rw [enough_congr ms ns s h]
  unfold smP
  rw [e]
end Go.Proofs.YtedpnjbbcfiheaaGreatDoor

/- Plain law: the mask of a fault has the bits of the vectors that catch it. -/
set_option linter.unusedVariables false
namespace Go.Proofs.YtedpnjbbcfiheaaGreatDoor
open Go.RowKit Go.Sc Go.Sort
theorem row_bit (ss : List ByteArray) (i v : Nat) : ((rowsN ss)[i]?.getD 0).testBit v = decide (byteAt ss i v = 49) := by
  unfold rowsN byteAt
  rw [List.getElem?_map]
  cases h : ss[i]? with
  | none => simp
  | some s =>
    simp only [Option.map_some, Option.getD_some]
    rw [rowN_bit, decide_eq_decide]
    generalize s.data.toList[v]? = o
    cases o with
    | none => simp
    | some c => simp
theorem put_get (x : Nat) : ∀ (ns : List Int) (rs : List Nat) (i : Nat), i < rs.length → (∀ n ∈ ns, 0 ≤ n) → (putN rs ns x)[i]?.getD 0 = if conB ns i = true then x else rs[i]?.getD 0
  | [], rs, i, hi, _ => by simp [putN, conB]
  | n :: ns, rs, i, hi, h => by
    have h0 := h n (List.mem_cons_self ..)
    have : putN rs (n :: ns) x = putN (rs.set n.toNat x) ns x := rfl
    rw [this, put_get x ns _ i (by simpa using hi) fun m hm => h m (List.mem_cons_of_mem _ hm)]
    unfold conB
    rw [List.contains_cons]
    by_cases hc : ns.contains (i : Int) = true
    · rw [if_pos hc, hc, Bool.or_true, if_pos rfl]
    · rw [if_neg hc]
      by_cases e : n = (i : Int)
      · subst e; simp [hi]
      · have e2 : n.toNat ≠ i := by omega
        have e3 : ((i : Int) == n) = false := beq_eq_false_iff_ne.2 (fun e4 => e e4.symm)
        rw [e3, Bool.false_or, if_neg hc, List.getElem?_set_ne e2]
theorem sum01 (f : Int → Int) : ∀ (ns : List Int), (∀ n ∈ ns, f n = 0 ∨ f n = 1) → 0 ≤ (ns.map f).sum ∧ (ns.map f).sum ≤ ns.length ∧ ((ns.map f).sum = ns.length ↔ ∀ n ∈ ns, f n = 1) ∧ (0 < (ns.map f).sum ↔ ∃ n ∈ ns, f n = 1)
  | [], _ => by simp
  | n :: ns, h => by
    obtain ⟨h1, h2, h3, h4⟩ := sum01 f ns fun m hm => h m (List.mem_cons_of_mem _ hm)
    rw [List.map_cons, List.sum_cons, List.length_cons]
    rcases h n (List.mem_cons_self ..) with e | e
    · rw [e]
      refine ⟨by omega, by omega, ⟨fun h5 => by omega, fun h5 => ?_⟩, ⟨fun h5 => ?_, fun h5 => ?_⟩⟩
      · have := h5 n (List.mem_cons_self ..); omega
      · obtain ⟨m, hm, e2⟩ := h4.1 (by omega)
        exact ⟨m, List.mem_cons_of_mem _ hm, e2⟩
      · obtain ⟨m, hm, e2⟩ := h5
        rcases List.mem_cons.1 hm with e3 | hm
        · rw [e3] at e2; omega
        · have := h4.2 ⟨m, hm, e2⟩; omega
    · rw [e]
      refine ⟨by omega, by omega, ⟨fun h5 => ?_, fun h5 => ?_⟩, ⟨fun h5 => ⟨n, List.mem_cons_self .., e⟩, fun h5 => by omega⟩⟩
      · have := h3.1 (by omega)
        intro m hm
        rcases List.mem_cons.1 hm with e3 | hm
        · rw [e3, e]
        · exact this m hm
      · have := h3.2 fun m hm => h5 m (List.mem_cons_of_mem _ hm)
        omega
theorem foldl_and_bit (rs : List Nat) (v : Nat) : ∀ (ns : List Int) (a : Nat), (ns.foldl (fun v n => v &&& atN rs n) a).testBit v = (a.testBit v && ns.all fun n => (atN rs n).testBit v)
  | [], a => by simp
  | n :: ns, a => by rw [List.foldl_cons, foldl_and_bit rs v ns, Nat.testBit_and, List.all_cons, Bool.and_assoc]
theorem foldl_or_bit (rs : List Nat) (v : Nat) : ∀ (ns : List Int) (a : Nat), (ns.foldl (fun v n => v ||| atN rs n) a).testBit v = (a.testBit v || ns.any fun n => (atN rs n).testBit v)
  | [], a => by simp
  | n :: ns, a => by rw [List.foldl_cons, foldl_or_bit rs v ns, Nat.testBit_or, List.any_cons, Bool.or_assoc]
theorem head_mem {ns : List Int} (h : 1 ≤ ns.length) : ns[0]?.getD 0 ∈ ns := by
  rw [List.getElem?_eq_getElem (by omega)]
  exact List.getElem_mem _
theorem byte01 {ss : List ByteArray} (hok : okTest ss) {z : Nat} (hz : ∀ s ∈ ss, s.size = z) {i v : Nat} (hi : i < ss.length) (hv : v < z) : byteAt ss i v = 48 ∨ byteAt ss i v = 49 := by
  have hm : ss[i] ∈ ss := List.getElem_mem _
  exact byteAt_01 (List.getElem?_eq_getElem hi) (by rw [hz _ hm]; exact hv) (hok _ hm).2
theorem seen_bit (ss : List ByteArray) (k : Int) (ns : List Int) (z i v : Nat) (hok : okTest ss) (hz : ∀ s ∈ ss, s.size = z) (hfo : FOk ss.length k ns) (hk1 : 1 ≤ k) (hk6 : k ≤ 6) (hi : i < ss.length) (hv : v < z) :
    (seenV ss k ns i v = 48 ∨ seenV ss k ns i v = 49) ∧ ((withN (rowsN ss) k ns (onesN (z : Int)))[i]?.getD 0).testBit v = decide (seenV ss k ns i v = 49) := by
  have hrl : (rowsN ss).length = ss.length := by simp [rowsN]
  unfold withN
  rw [put_get _ ns _ i (by omega) fun n hn => (hfo.nets n hn).1]
  unfold seenV
  by_cases hc : conB ns i = true
  · rw [if_pos hc, if_neg (by rw [hc]; decide)]
    have hat : ∀ n ∈ ns, (atN (rowsN ss) n).testBit v = decide (byteAt ss n.toNat v = 49) := fun n _ => row_bit ss n.toNat v
    have h01 : ∀ n ∈ ns, byteAt ss n.toNat v = 48 ∨ byteAt ss n.toNat v = 49 := fun n hn => by
      obtain ⟨a, b⟩ := hfo.nets n hn
      exact byte01 hok hz (by omega) hv
    have hf01 : ∀ n ∈ ns, ((byteAt ss n.toNat v).toNat : Int) - 48 = 0 ∨ ((byteAt ss n.toNat v).toNat : Int) - 48 = 1 := fun n hn => by
      rcases h01 n hn with e | e <;> rw [e]
      · left; rfl
      · right; rfl
    have hf1 : ∀ n ∈ ns, (((byteAt ss n.toNat v).toNat : Int) - 48 = 1 ↔ byteAt ss n.toNat v = 49) := fun n hn => by
      rcases h01 n hn with e | e <;> rw [e] <;> decide
    obtain ⟨s1, s2, s3, s4⟩ := sum01 (fun n => ((byteAt ss n.toNat v).toNat : Int) - 48) ns hf01
    have hm0 := head_mem hfo.one
    unfold valN
    by_cases k1 : k = 1
    · subst k1; simp
    by_cases k2 : k = 2 ∨ k = 6
    · have k5 : k ≠ 5 := by omega
      rw [if_neg k1, if_pos k2, if_neg k5, if_pos k2, ones_bit]
      exact ⟨.inr rfl, by simp [hv]⟩
    by_cases k3 : k = 3
    · subst k3
      rw [if_neg k1, if_neg k2, if_pos rfl, if_neg (by decide), if_neg k2, if_pos rfl, foldl_and_bit]
      unfold onesIn
      by_cases hall : ∀ n ∈ ns, byteAt ss n.toNat v = 49
      · have e1 := s3.2 fun n hn => (hf1 n hn).2 (hall n hn)
        rw [if_pos e1]
        refine ⟨.inr rfl, ?_⟩
        rw [hat _ hm0, decide_eq_true (hall _ hm0), Bool.true_and, List.all_eq_true.2 fun n hn => by rw [hat n hn]; exact decide_eq_true (hall n hn)]
        rfl
      · have e1 : ¬ (ns.map fun n => ((byteAt ss n.toNat v).toNat : Int) - 48).sum = ns.length := fun e => hall fun n hn => (hf1 n hn).1 (s3.1 e n hn)
        rw [if_neg e1]
        refine ⟨.inl rfl, ?_⟩
        have : (ns.all fun n => (atN (rowsN ss) n).testBit v) = false := by
          rw [← Bool.not_eq_true, List.all_eq_true]
          intro h
          exact hall fun n hn => by have := h n hn; rw [hat n hn] at this; simpa using this
        rw [this, Bool.and_false]
        decide
    by_cases k4 : k = 4
    · subst k4
      rw [if_neg k1, if_neg k2, if_neg k3, if_pos rfl, if_neg (by decide), if_neg k2, if_neg k3, if_pos rfl, foldl_or_bit]
      unfold onesIn
      by_cases hany : ∃ n ∈ ns, byteAt ss n.toNat v = 49
      · have e1 := s4.2 (by obtain ⟨n, hn, e⟩ := hany; exact ⟨n, hn, (hf1 n hn).2 e⟩)
        rw [if_pos e1]
        refine ⟨.inr rfl, ?_⟩
        have : (ns.any fun n => (atN (rowsN ss) n).testBit v) = true := by
          rw [List.any_eq_true]
          obtain ⟨n, hn, e⟩ := hany
          exact ⟨n, hn, by rw [hat n hn]; exact decide_eq_true e⟩
        rw [this, Bool.or_true]
        rfl
      · have e1 : ¬ 0 < (ns.map fun n => ((byteAt ss n.toNat v).toNat : Int) - 48).sum := fun e => by
          obtain ⟨n, hn, e2⟩ := s4.1 e
          exact hany ⟨n, hn, (hf1 n hn).1 e2⟩
        rw [if_neg e1]
        refine ⟨.inl rfl, ?_⟩
        have hno : ∀ n ∈ ns, (atN (rowsN ss) n).testBit v = false := fun n hn => by
          rw [hat n hn]; exact decide_eq_false fun e => hany ⟨n, hn, e⟩
        have : (ns.any fun n => (atN (rowsN ss) n).testBit v) = false := by
          rw [List.any_eq_false]
          intro n hn
          rw [hno n hn]; decide
        rw [this, hno _ hm0]
        decide
    have k5 : k = 5 := by omega
    subst k5
    rw [if_neg k1, if_neg k2, if_neg k3, if_neg k4, if_pos rfl]
    exact ⟨h01 _ hm0, hat _ hm0⟩
  · rw [if_neg hc, if_pos (by simpa using hc)]
    exact ⟨byte01 hok hz hi hv, row_bit ss i v⟩
theorem det_bit (rs : List Nat) (k : Int) (ns : List Int) (ones v : Nat) : (detN rs k ns ones).testBit v = (List.range rs.length).any fun i => ((withN rs k ns ones)[i]?.getD 0).testBit v != (rs[i]?.getD 0).testBit v := by
  unfold detN
  have : ∀ (l : List Nat) (a : Nat), (l.foldl (fun a i => a ||| ((withN rs k ns ones)[i]?.getD 0 ^^^ rs[i]?.getD 0)) a).testBit v = (a.testBit v || l.any fun i => ((withN rs k ns ones)[i]?.getD 0).testBit v != (rs[i]?.getD 0).testBit v) := by
    intro l
    induction l with
    | nil => simp
    | cons i l ih =>
      intro a
      rw [List.foldl_cons, ih, List.any_cons, Nat.testBit_or, Nat.testBit_xor, Bool.or_assoc]
  rw [this]
  simp
theorem resp_byte (ss : List ByteArray) (k : Int) (ns : List Int) (z n i v : Nat) (hi : i < n) (hv : v < z) : byteAt (respR ss k ns z n) i v = seenV ss k ns i v := by
  unfold byteAt
  rw [respR_get ss k ns z n i hi]
  show ((respL ss k ns i z).toArray.toList[v]?).getD 0 = _
  unfold respL
  simp [hv]
theorem any_congr {l : List Nat} {p q : Nat → Bool} (h : ∀ x ∈ l, p x = q x) : l.any p = l.any q := by
  induction l with
  | nil => rfl
  | cons x l ih => rw [List.any_cons, List.any_cons, h x (List.mem_cons_self ..), ih fun y hy => h y (List.mem_cons_of_mem _ hy)]
theorem with_hi (rs : List Nat) (k : Int) (ns : List Int) (z v i : Nat) (hi : i < rs.length) (hns : ∀ n ∈ ns, 0 ≤ n) (hrs : ∀ i : Nat, (rs[i]?.getD 0).testBit v = false) (hv : z ≤ v) : ((withN rs k ns (onesN (z : Int)))[i]?.getD 0).testBit v = false := by
  unfold withN
  rw [put_get _ ns _ i hi hns]
  split
  · unfold valN
    split
    · simp
    split
    · rw [ones_bit]; simp; omega
    split
    · rw [foldl_and_bit]; unfold atN; rw [hrs]; rfl
    split
    · rw [foldl_or_bit]; unfold atN; simp [hrs]
    · exact hrs _
  · exact hrs i
theorem cat_eq (ss : List ByteArray) (k : Int) (ns : List Int) (z : Nat) (hok : okTest ss) (hz : ∀ s ∈ ss, s.size = z) (hh : (ss.headD ByteArray.empty).size = z) (hfo : FOk ss.length k ns) (hk1 : 1 ≤ k) (hk6 : k ≤ 6) :
    detN (rowsN ss) k ns (onesN (z : Int)) < 2 ^ z ∧ catL ss k ns = bitsL (detN (rowsN ss) k ns (onesN (z : Int))) z := by
  have hrl : (rowsN ss).length = ss.length := by simp [rowsN]
  constructor
  · refine Nat.lt_pow_two_of_testBit _ fun v hv => ?_
    have hrs : ∀ i : Nat, ((rowsN ss)[i]?.getD 0).testBit v = false := fun i => by
      rw [row_bit]
      refine decide_eq_false fun e => ?_
      unfold byteAt at e
      cases h : ss[i]? with
      | none => rw [h] at e; simp at e
      | some s =>
        rw [h] at e
        have hs := hz s (List.mem_of_getElem? h)
        rw [Option.getD_some, List.getElem?_eq_none (Nat.le_trans (Nat.le_of_eq (show s.data.toList.length = z from (show s.data.toList.length = s.size by simp).trans hs)) hv)] at e
        cases e
    rw [det_bit, List.any_eq_false]
    intro i hi
    rw [hrs i, with_hi _ k ns z v i (List.mem_range.1 hi) (fun n hn => (hfo.nets n hn).1) hrs hv]
    decide
  · unfold catL hitL bitsL
    rw [hh]
    congr 1
    refine List.filter_congr fun v hv => ?_
    have hv := List.mem_range.1 hv
    rw [det_bit, hrl]
    unfold hitB
    refine any_congr fun i hi => ?_
    have hi := List.mem_range.1 hi
    obtain ⟨h1, h2⟩ := seen_bit ss k ns z i v hok hz hfo hk1 hk6 hi hv
    rw [resp_byte ss k ns z _ i v hi hv, h2, row_bit]
    rcases h1 with e | e <;> rcases byte01 hok hz hi hv with e2 | e2 <;> rw [e, e2] <;> decide
end Go.Proofs.YtedpnjbbcfiheaaGreatDoor

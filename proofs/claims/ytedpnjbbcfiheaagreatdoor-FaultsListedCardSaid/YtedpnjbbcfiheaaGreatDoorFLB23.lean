import Derived.Test.YtedpnjbbcfiheaaGreatDoorFLB11
import Derived.Test.YtedpnjbbcfiheaaGreatDoorFLB17
import Derived.Test.YtedpnjbbcfiheaaGreatDoorFLB22
set_option linter.unusedSimpArgs false
set_option linter.unusedSectionVars false
set_option linter.unusedVariables false
/- Plain law: Undetected, Coverage, Groups, Resolution and Curve answer as the reference does. -/
set_option linter.unusedVariables false
namespace Go.Proofs.YtedpnjbbcfiheaaGreatDoor
open Go.RowKit Go.Sc Go.Sort
theorem det_facts {ss : List ByteArray} {fs : List (Int × List Int)} (h0 : lfault ss fs = 0) (f : Int × List Int) (hf : f ∈ fs) :
    detN (rowsN ss) f.1 f.2 (onesN ((ss.headD ByteArray.empty).size : Int)) < 2 ^ (ss.headD ByteArray.empty).size ∧ catL ss f.1 f.2 = bitsL (detN (rowsN ss) f.1 f.2 (onesN ((ss.headD ByteArray.empty).size : Int))) (ss.headD ByteArray.empty).size := by
  obtain ⟨t0, fl, fo⟩ := lfault_ok h0
  obtain ⟨l1, l2, hok, hz⟩ := tfault_ok t0
  obtain ⟨_, _, k1, k6, _⟩ := ffault_ok (fo f hf)
  exact cat_eq ss f.1 f.2 _ hok hz rfl (FOk_of (fo f hf)) k1 k6
theorem bitsL_zero (m z : Nat) (h : m < 2 ^ z) : (bitsL m z).length = 0 ↔ m = 0 := by
  constructor
  · intro hl
    have he : bitsL m z = [] := List.eq_nil_of_length_eq_zero hl
    by_cases h0 : m = 0
    · exact h0
    · obtain ⟨i, hi⟩ := ne0_bit h0
      have := (mem_bitsL m z i).2 ⟨i, bit_lt h hi, hi, rfl⟩
      rw [he] at this
      cases this
  · intro h0
    subst h0
    simp [bitsL]
theorem law_und {ss : List ByteArray} {fs : List (Int × List Int)} (h0 : lfault ss fs = 0) : numL (undM (maskN ss fs)) fs.length = numL (undC ss fs) fs.length := by
  refine numL_congr fun i hi => ?_
  obtain ⟨h1, h2⟩ := det_facts h0 fs[i] (List.getElem_mem _)
  have hz := bitsL_zero _ _ h1
  have e : fs[i]? = some fs[i] := List.getElem?_eq_getElem hi
  unfold undM undC maskN
  rw [List.getElem?_map, e]
  show (detN (rowsN ss) fs[i].1 fs[i].2 (onesN ((ss.headD ByteArray.empty).size : Int)) == 0) = decide ((catL ss fs[i].1 fs[i].2).length = 0)
  rw [h2, Bool.eq_iff_iff, decide_eq_true_eq, hz, beq_iff_eq]
theorem head_le (l : List Int) (hs : l.Pairwise (· < ·)) (j : Int) : (l.length ≠ 0 ∧ l[0]?.getD 0 ≤ j) ↔ ∃ x ∈ l, x ≤ j := by
  cases l with
  | nil => simp
  | cons a l =>
    simp only [List.length_cons, List.getElem?_cons_zero, Option.getD_some]
    constructor
    · exact fun ⟨_, h⟩ => ⟨a, by simp, h⟩
    · rintro ⟨x, hx, h⟩
      refine ⟨by omega, ?_⟩
      rcases List.mem_cons.1 hx with rfl | hx
      · exact h
      · have := List.rel_of_pairwise_cons hs hx
        omega
theorem and_ones (m j : Nat) : ((m &&& onesN ((j : Int) + 1)) != 0) = true ↔ ∃ i : Nat, i ≤ j ∧ m.testBit i = true := by
  have hc : ((j : Int) + 1) = ((j + 1 : Nat) : Int) := by omega
  rw [hc, bne_iff_ne]
  constructor
  · intro h
    obtain ⟨i, hi⟩ := ne0_bit h
    rw [Nat.testBit_and, ones_bit] at hi
    simp at hi
    exact ⟨i, by omega, hi.1⟩
  · rintro ⟨i, h1, h2⟩ h
    have : (m &&& onesN ((j + 1 : Nat) : Int)).testBit i = true := by
      rw [Nat.testBit_and, ones_bit, h2]
      simp; omega
    rw [h] at this
    simp at this
theorem filter_map_len (fs : List (Int × List Int)) (g : Int × List Int → Nat) (p : Nat → Bool) (q : Int × List Int → Bool) (h : ∀ f ∈ fs, p (g f) = q f) : ((fs.map g).filter p).length = (fs.filter q).length := by
  induction fs with
  | nil => rfl
  | cons f fs ih =>
    rw [List.map_cons, List.filter_cons, List.filter_cons, h f (by simp)]
    have := ih (fun f hf => h f (by simp [hf]))
    split
    · simp [this]
    · exact this
theorem law_curve {ss : List ByteArray} {fs : List (Int × List Int)} (h0 : lfault ss fs = 0) (z : Nat) : rowR (cntM (maskN ss fs) fs.length) z = rowR (cntC ss fs fs.length) z := by
  refine rowR_congr fun j _ => ?_
  unfold cntM cntC
  rw [List.take_length, List.take_of_length_le (by simp [maskN]), maskN]
  refine filter_map_len fs _ _ _ fun f hf => ?_
  obtain ⟨h1, h2⟩ := det_facts h0 f hf
  show ((detN (rowsN ss) f.1 f.2 (onesN ((ss.headD ByteArray.empty).size : Int)) &&& onesN ((j : Int) + 1)) != 0) = hitC ss j f
  unfold hitC
  rw [Bool.eq_iff_iff, and_ones, Bool.and_eq_true, decide_eq_true_eq, decide_eq_true_eq, h2, head_le _ (bitsL_sorted _ _)]
  constructor
  · rintro ⟨i, hi, hb⟩
    exact ⟨i, (mem_bitsL _ _ _).2 ⟨i, bit_lt h1 hb, hb, rfl⟩, by omega⟩
  · rintro ⟨x, hx, hj⟩
    obtain ⟨i, _, hb, rfl⟩ := (mem_bitsL _ _ _).1 hx
    exact ⟨i, by omega, hb⟩
/-! ### keys -/
theorem dig_inj : ∀ a, a < 36 → ∀ b, b < 36 → dig36 a = dig36 b → a = b := by decide
theorem dig_ne : ∀ a, a < 36 → dig36 a ≠ 32 := by decide
theorem fmt36_ne (n : Nat) : fmt36 n ≠ [] := by
  by_cases h : n < 36
  · rw [fmt36_lt n h]; simp
  · rw [fmt36_ge n (by omega)]; simp
theorem fmt36_32 (n : Nat) : (32 : UInt8) ∉ fmt36 n := by
  induction n using Nat.strongRecOn with
  | _ n ih =>
    by_cases h : n < 36
    · rw [fmt36_lt n h]
      simp
      exact fun e => dig_ne n h e.symm
    · rw [fmt36_ge n (by omega), List.mem_append]
      rintro (h1 | h1)
      · exact ih (n / 36) (by omega) h1
      · simp at h1
        exact dig_ne (n % 36) (Nat.mod_lt _ (by decide)) h1.symm
theorem fmt36_inj : ∀ n m : Nat, fmt36 n = fmt36 m → n = m := by
  intro n
  induction n using Nat.strongRecOn with
  | _ n ih =>
    intro m e
    by_cases h : n < 36
    · by_cases h' : m < 36
      · rw [fmt36_lt n h, fmt36_lt m h'] at e
        injection e with e
        exact dig_inj n h m h' e
      · exfalso
        rw [fmt36_lt n h, fmt36_ge m (by omega)] at e
        have := congrArg List.length e
        have h2 := List.length_pos_iff.2 (fmt36_ne (m / 36))
        simp only [List.length_append, List.length_cons, List.length_nil] at this
        omega
    · by_cases h' : m < 36
      · exfalso
        rw [fmt36_lt m h', fmt36_ge n (by omega)] at e
        have := congrArg List.length e
        have h2 := List.length_pos_iff.2 (fmt36_ne (n / 36))
        simp only [List.length_append, List.length_cons, List.length_nil] at this
        omega
      · rw [fmt36_ge n (by omega), fmt36_ge m (by omega)] at e
        obtain ⟨e1, e2⟩ := List.append_inj' e rfl
        injection e2 with e2
        have h1 := ih (n / 36) (by omega) _ e1
        have h2 := dig_inj _ (Nat.mod_lt n (by decide)) _ (Nat.mod_lt m (by decide)) e2
        omega
theorem cut32 : ∀ (a b x y : List UInt8), (32 : UInt8) ∉ a → (32 : UInt8) ∉ b → a ++ 32 :: x = b ++ 32 :: y → a = b ∧ x = y
  | [], [], x, y, _, _, e => ⟨rfl, by simpa using e⟩
  | [], c :: b, x, y, _, hb, e => by simp at e; exact absurd (by simp [e.1]) hb
  | c :: a, [], x, y, ha, _, e => by simp at e; exact absurd (by simp [e.1]) ha
  | c :: a, d :: b, x, y, ha, hb, e => by
    simp only [List.cons_append, List.cons.injEq] at e
    obtain ⟨h1, h2⟩ := cut32 a b x y (fun h => ha (by simp [h])) (fun h => hb (by simp [h])) e.2
    exact ⟨by rw [e.1, h1], h2⟩
theorem keyB_inj : ∀ (a b : List Nat), a.length = b.length → keyB a = keyB b → a = b
  | [], [], _, _ => rfl
  | [], _ :: _, h, _ => by simp at h
  | _ :: _, [], h, _ => by simp at h
  | x :: a, y :: b, h, e => by
    have e' : fmt36 x ++ 32 :: keyB a = fmt36 y ++ 32 :: keyB b := by
      have : ∀ (x : Nat) (a : List Nat), keyB (x :: a) = fmt36 x ++ 32 :: keyB a := fun x a => by simp [keyB, List.append_assoc]
      rw [← this, ← this]; exact e
    obtain ⟨h1, h2⟩ := cut32 _ _ _ _ (fmt36_32 x) (fmt36_32 y) e'
    rw [fmt36_inj _ _ h1, keyB_inj a b (by simpa using h) h2]
theorem tail_inj (sep : List UInt8) (z : Nat) : ∀ (a b : List (List UInt8)), a.length = b.length → (∀ x ∈ a, x.length = z) → (∀ x ∈ b, x.length = z) → Lib.joinTail sep a = Lib.joinTail sep b → a = b
  | [], [], _, _, _, _ => rfl
  | [], _ :: _, h, _, _, _ => by simp at h
  | _ :: _, [], h, _, _, _ => by simp at h
  | x :: a, y :: b, h, ha, hb, e => by
    simp only [Lib.joinTail, List.map_cons, List.flatten_cons, List.append_assoc] at e
    have e1 := List.append_cancel_left e
    obtain ⟨e2, e3⟩ := List.append_inj e1 ((ha x (by simp)).trans (hb y (by simp)).symm)
    rw [e2, tail_inj sep z a b (by simpa using h) (fun x hx => ha x (by simp [hx])) (fun x hx => hb x (by simp [hx])) e3]
theorem join_inj (sep : List UInt8) (z : Nat) : ∀ (a b : List (List UInt8)), a.length = b.length → (∀ x ∈ a, x.length = z) → (∀ x ∈ b, x.length = z) → Lib.join a sep = Lib.join b sep → a = b
  | [], [], _, _, _, _ => rfl
  | [], _ :: _, h, _, _, _ => by simp at h
  | _ :: _, [], h, _, _, _ => by simp at h
  | x :: a, y :: b, h, ha, hb, e => by
    rw [Lib.join_cons, Lib.join_cons] at e
    obtain ⟨e2, e3⟩ := List.append_inj e ((ha x (by simp)).trans (hb y (by simp)).symm)
    rw [e2, tail_inj sep z a b (by simpa using h) (fun x hx => ha x (by simp [hx])) (fun x hx => hb x (by simp [hx])) e3]
theorem row_hi {ss : List ByteArray} {z : Nat} (hz : ∀ s ∈ ss, s.size = z) {v : Nat} (hv : z ≤ v) (i : Nat) : ((rowsN ss)[i]?.getD 0).testBit v = false := by
  rw [row_bit]
  refine decide_eq_false fun e => ?_
  unfold byteAt at e
  cases h : ss[i]? with
  | none => rw [h] at e; simp at e
  | some s =>
    rw [h] at e
    have hs := hz s (List.mem_of_getElem? h)
    rw [Option.getD_some, List.getElem?_eq_none (Nat.le_trans (Nat.le_of_eq (show s.data.toList.length = z from (show s.data.toList.length = s.size by simp).trans hs)) hv)] at e
    cases e
/-- two faults have the same key in the program as in the reference -/
theorem key_iff {ss : List ByteArray} {fs : List (Int × List Int)} (h0 : lfault ss fs = 0) (i j : Nat) (hi : i < fs.length) (hj : j < fs.length) :
    keyG ss fs i = keyG ss fs j ↔ keyR ss fs (ss.headD ByteArray.empty).size i = keyR ss fs (ss.headD ByteArray.empty).size j := by
  obtain ⟨t0, fl, fo⟩ := lfault_ok h0
  obtain ⟨l1, l2, hok, hz⟩ := tfault_ok t0
  have hrl : (rowsN ss).length = ss.length := by simp [rowsN]
  have pf : ∀ f ∈ fs, FOk ss.length f.1 f.2 ∧ 1 ≤ f.1 ∧ f.1 ≤ 6 := fun f hf => by
    obtain ⟨_, _, k1, k6, _⟩ := ffault_ok (fo f hf)
    exact ⟨FOk_of (fo f hf), k1, k6⟩
  obtain ⟨p1, p2, p3⟩ := pf fs[i] (List.getElem_mem _)
  obtain ⟨q1, q2, q3⟩ := pf fs[j] (List.getElem_mem _)
  unfold keyG keyR
  rw [List.getElem?_eq_getElem hi, List.getElem?_eq_getElem hj, Option.getD_some, Option.getD_some]
  generalize fs[i] = f at *
  generalize fs[j] = g at *
  generalize (ss.headD ByteArray.empty).size = z at *
  have key : withN (rowsN ss) f.1 f.2 (onesN (z : Int)) = withN (rowsN ss) g.1 g.2 (onesN (z : Int)) ↔ ∀ a v, a < ss.length → v < z → seenV ss f.1 f.2 a v = seenV ss g.1 g.2 a v := by
    constructor
    · intro e a v ha hv
      obtain ⟨c1, c2⟩ := seen_bit ss f.1 f.2 z a v hok hz p1 p2 p3 ha hv
      obtain ⟨d1, d2⟩ := seen_bit ss g.1 g.2 z a v hok hz q1 q2 q3 ha hv
      rw [e, d2] at c2
      have := decide_eq_decide.1 c2
      rcases c1 with c1 | c1
      · rcases d1 with d1 | d1
        · rw [c1, d1]
        · rw [c1, d1] at this; exact absurd (this.1 rfl) (by decide)
      · rw [c1] at this; rw [c1, this.2 rfl]
    · intro h
      refine List.ext_getElem (by rw [withN_len, withN_len]) fun a ha hb => ?_
      have ha' : a < ss.length := by rw [withN_len, hrl] at ha; exact ha
      have e1 : ∀ (l : List Nat) (hl : a < l.length), l[a] = l[a]?.getD 0 := fun l hl => by rw [List.getElem?_eq_getElem hl]; rfl
      rw [e1 _ ha, e1 _ hb]
      refine Nat.eq_of_testBit_eq fun v => ?_
      rcases Nat.lt_or_ge v z with hv | hv
      · rw [(seen_bit ss f.1 f.2 z a v hok hz p1 p2 p3 ha' hv).2, (seen_bit ss g.1 g.2 z a v hok hz q1 q2 q3 ha' hv).2, h a v ha' hv]
      · rw [with_hi _ _ _ z v a (by omega) (fun n hn => (p1.nets n hn).1) (row_hi hz hv) hv, with_hi _ _ _ z v a (by omega) (fun n hn => (q1.nets n hn).1) (row_hi hz hv) hv]
  have key2 : (respR ss f.1 f.2 z ss.length).map (·.data.toList) = (respR ss g.1 g.2 z ss.length).map (·.data.toList) ↔ ∀ a v, a < ss.length → v < z → seenV ss f.1 f.2 a v = seenV ss g.1 g.2 a v := by
    have e1 : ∀ (k : Int) (ns : List Int), (respR ss k ns z ss.length).map (·.data.toList) = (List.range ss.length).map fun a => (List.range z).map fun v => seenV ss k ns a v := fun k ns => by
      simp [respR, respS, respL, List.map_map, Function.comp_def]
    rw [e1, e1]
    constructor
    · intro e a v ha hv
      have h1 := (List.map_inj_left.1 e) a (List.mem_range.2 ha)
      exact (List.map_inj_left.1 h1) v (List.mem_range.2 hv)
    · intro h
      exact List.map_congr_left fun a ha => List.map_congr_left fun v hv => h a v (List.mem_range.1 ha) (List.mem_range.1 hv)
  have hlen : ∀ (k : Int) (ns : List Int), ∀ x ∈ (respR ss k ns z ss.length).map (·.data.toList), x.length = z := fun k ns x hx => by
    simp only [respR, List.map_map, List.mem_map] at hx
    obtain ⟨a, _, rfl⟩ := hx
    simp [respS, respL_len]
  constructor
  · intro e
    have e2 := keyB_inj _ _ (by rw [withN_len, withN_len]) e
    unfold joinK
    rw [key2.2 (key.1 e2)]
  · intro e
    unfold joinK at e
    have e2 := join_inj [32] z _ _ (by simp [respR]) (hlen _ _) (hlen _ _) e
    rw [key.2 (key2.1 e2)]
theorem law_groups {ss : List ByteArray} {fs : List (Int × List Int)} (h0 : lfault ss fs = 0) : (grp (keyG ss fs) fs.length).2 = (grp (keyR ss fs (ss.headD ByteArray.empty).size) fs.length).2 :=
  grp_same _ _ _ fun i j hi hj => key_iff h0 i j hi hj
end Go.Proofs.YtedpnjbbcfiheaaGreatDoor

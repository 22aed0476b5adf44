/- The number of ones of a 64-bit number, as the library computes it. -/
namespace Go.Sc

def popF : Nat → Nat → Nat
  | 0, _ => 0
  | n + 1, x => x % 2 + popF n (x / 2)
def ofBytes : List Nat → Nat
  | [] => 0
  | a :: l => a + 256 * ofBytes l
def byteOk (l : List Nat) : Prop := ∀ a ∈ l, a < 256
theorem and_lane (a y m M : Nat) (ha : a < 256) (hm : m < 256) : (a + 256 * y) &&& (m + 256 * M) = (a &&& m) + 256 * (y &&& M) := by
  apply Nat.eq_of_testBit_eq
  intro i
  have h1 : ∀ b z : Nat, b < 256 → (b + 256 * z).testBit i = if i < 8 then b.testBit i else z.testBit (i - 8) := fun b z hb => by
    rw [Nat.add_comm, show (256 : Nat) = 2 ^ 8 from rfl, Nat.testBit_two_pow_mul_add _ hb]
  have hab : a &&& m < 256 := Nat.lt_of_le_of_lt Nat.and_le_left ha
  rw [Nat.testBit_and, h1 _ _ ha, h1 _ _ hm, h1 _ _ hab]
  split <;> simp [Nat.testBit_and]
theorem step1 : ∀ l : List Nat, byteOk l → (ofBytes l / 2 &&& ofBytes (l.map fun _ => 85)) = ofBytes (l.map fun a => a / 2 &&& 85)
  | [], _ => rfl
  | a :: l, h => by
    have ha : a < 256 := h a (List.mem_cons_self ..)
    have ih := step1 l fun b hb => h b (List.mem_cons_of_mem _ hb)
    simp only [List.map_cons, ofBytes]
    have e : (a + 256 * ofBytes l) / 2 = (a / 2 + 128 * (ofBytes l % 2)) + 256 * (ofBytes l / 2) := by omega
    rw [e, and_lane _ _ _ _ (by omega) (by decide), ih]
    have hd : ∀ a, a < 256 → ∀ b, b < 2 → (a / 2 + 128 * b) &&& 85 = a / 2 &&& 85 := by decide +kernel
    rw [hd a ha _ (by omega)]
theorem step1' : ∀ l : List Nat, byteOk l → (ofBytes l &&& ofBytes (l.map fun _ => 85)) = ofBytes (l.map fun a => a &&& 85)
  | [], _ => rfl
  | a :: l, h => by
    have ih := step1' l fun b hb => h b (List.mem_cons_of_mem _ hb)
    simp only [List.map_cons, ofBytes]
    rw [and_lane _ _ _ _ (h a (List.mem_cons_self ..)) (by decide), ih]
theorem step2 : ∀ l : List Nat, byteOk l → (ofBytes l / 4 &&& ofBytes (l.map fun _ => 51)) = ofBytes (l.map fun a => a / 4 &&& 51)
  | [], _ => rfl
  | a :: l, h => by
    have ha : a < 256 := h a (List.mem_cons_self ..)
    have ih := step2 l fun b hb => h b (List.mem_cons_of_mem _ hb)
    simp only [List.map_cons, ofBytes]
    have e : (a + 256 * ofBytes l) / 4 = (a / 4 + 64 * (ofBytes l % 4)) + 256 * (ofBytes l / 4) := by omega
    rw [e, and_lane _ _ _ _ (by omega) (by decide), ih]
    have hd : ∀ a, a < 256 → ∀ b, b < 4 → (a / 4 + 64 * b) &&& 51 = a / 4 &&& 51 := by decide +kernel
    rw [hd a ha _ (by omega)]
theorem step2' : ∀ l : List Nat, byteOk l → (ofBytes l &&& ofBytes (l.map fun _ => 51)) = ofBytes (l.map fun a => a &&& 51)
  | [], _ => rfl
  | a :: l, h => by
    have ih := step2' l fun b hb => h b (List.mem_cons_of_mem _ hb)
    simp only [List.map_cons, ofBytes]
    rw [and_lane _ _ _ _ (h a (List.mem_cons_self ..)) (by decide), ih]
theorem add_lanes (f g : Nat → Nat) : ∀ l : List Nat, ofBytes (l.map f) + ofBytes (l.map g) = ofBytes (l.map fun a => f a + g a)
  | [] => rfl
  | a :: l => by
    have ih := add_lanes f g l
    simp only [List.map_cons, ofBytes]
    omega
def nib (a : Nat) : Prop := a < 256 ∧ a % 16 ≤ 4 ∧ a / 16 ≤ 4
theorem step3 : ∀ l : List Nat, (∀ a ∈ l, nib a) → ((ofBytes l / 16 + ofBytes l) &&& ofBytes (l.map fun _ => 15)) = ofBytes (l.map fun a => (a / 16 + a) &&& 15)
  | [], _ => rfl
  | a :: l, h => by
    obtain ⟨ha, h1, h2⟩ := h a (List.mem_cons_self ..)
    have ih := step3 l fun b hb => h b (List.mem_cons_of_mem _ hb)
    simp only [List.map_cons, ofBytes]
    have hl : ofBytes l % 16 ≤ 4 := by
      cases l with
      | nil => decide
      | cons b l =>
        have := (h b (List.mem_cons_of_mem _ (List.mem_cons_self ..))).2.1
        simp only [ofBytes]
        omega
    have e : (a + 256 * ofBytes l) / 16 + (a + 256 * ofBytes l) = (a / 16 + 16 * (ofBytes l % 16) + a) + 256 * (ofBytes l / 16 + ofBytes l) := by omega
    rw [e, and_lane _ _ _ _ (by omega) (by decide), ih]
    have hd : ∀ x b, (x + 16 * b) &&& 15 = x &&& 15 := fun x b => by
      rw [show (15 : Nat) = 2 ^ 4 - 1 from rfl, Nat.and_two_pow_sub_one_eq_mod, Nat.and_two_pow_sub_one_eq_mod]; omega
    rw [show a / 16 + 16 * (ofBytes l % 16) + a = a / 16 + a + 16 * (ofBytes l % 16) by omega, hd]
theorem lanes (x : Nat) (h : x < 18446744073709551616) : ∃ l, byteOk l ∧ l.length = 8 ∧ ofBytes l = x := by
  refine ⟨[x % 256, x / 256 % 256, x / 65536 % 256, x / 16777216 % 256, x / 4294967296 % 256, x / 1099511627776 % 256, x / 281474976710656 % 256, x / 72057594037927936 % 256], ?_, rfl, ?_⟩
  · intro a ha
    simp only [List.mem_cons, List.not_mem_nil, or_false] at ha
    rcases ha with rfl | rfl | rfl | rfl | rfl | rfl | rfl | rfl <;> exact Nat.mod_lt _ (by decide)
  · simp only [ofBytes]
    omega
theorem popF_split : ∀ (k n a y : Nat), a < 2 ^ k → popF (k + n) (a + 2 ^ k * y) = popF k a + popF n y
  | 0, n, a, y, h => by
    have : a = 0 := by simpa using h
    subst this
    simp [popF]
  | k + 1, n, a, y, h => by
    rw [show k + 1 + n = (k + n) + 1 by omega, popF, popF]
    have e1 : (a + 2 ^ (k + 1) * y) % 2 = a % 2 := by rw [Nat.pow_succ, Nat.mul_comm (2 ^ k) 2, Nat.mul_assoc]; omega
    have e2 : (a + 2 ^ (k + 1) * y) / 2 = a / 2 + 2 ^ k * y := by rw [Nat.pow_succ, Nat.mul_comm (2 ^ k) 2, Nat.mul_assoc]; omega
    rw [e1, e2, popF_split k n (a / 2) y (by rw [Nat.pow_succ] at h; omega)]
    omega
theorem popF_lanes : ∀ l : List Nat, byteOk l → popF (8 * l.length) (ofBytes l) = (l.map (popF 8)).sum
  | [], _ => rfl
  | a :: l, h => by
    have ih := popF_lanes l fun b hb => h b (List.mem_cons_of_mem _ hb)
    simp only [List.length_cons, ofBytes, List.map_cons, List.sum_cons]
    rw [show 8 * (l.length + 1) = 8 + 8 * l.length by omega, show (256 : Nat) = 2 ^ 8 from rfl, popF_split 8 _ a _ (h a (List.mem_cons_self ..)), ih]
def lane1 (a : Nat) : Nat := (a / 2 &&& 85) + (a &&& 85)
def lane2 (a : Nat) : Nat := (a / 4 &&& 51) + (a &&& 51)
def lane3 (a : Nat) : Nat := (a / 16 + a) &&& 15
theorem lane_all : ∀ a, a < 256 → lane1 a < 256 ∧ lane2 (lane1 a) < 256 ∧ lane2 (lane1 a) % 16 ≤ 4 ∧ lane2 (lane1 a) / 16 ≤ 4 ∧ lane3 (lane2 (lane1 a)) = popF 8 a ∧ popF 8 a ≤ 8 := by decide +kernel
def ones64 (x : Nat) : Nat :=
  let x1 := (x / 2 &&& 6148914691236517205) + (x &&& 6148914691236517205)
  let x2 := (x1 / 4 &&& 3689348814741910323) + (x1 &&& 3689348814741910323)
  let x3 := (x2 / 16 + x2) &&& 1085102592571150095
  let x4 := x3 + x3 / 256
  let x5 := x4 + x4 / 65536
  let x6 := x5 + x5 / 4294967296
  x6 % 128
theorem const_lanes (c : Nat) : ∀ l : List Nat, l.length = 8 → ofBytes (l.map fun _ => c) = c * 72340172838076673
  | [_, _, _, _, _, _, _, _], _ => by simp only [List.map_cons, List.map_nil, ofBytes]; omega
theorem div_of (r q m : Nat) (h : r < m) : (r + m * q) / m = q := by
  rw [Nat.add_mul_div_left _ _ (by omega), Nat.div_eq_of_lt h]; omega
set_option maxHeartbeats 2000000 in
theorem sum8 (a b c d e f g i : Nat) (ha : a ≤ 8) (hb : b ≤ 8) (hc : c ≤ 8) (hd : d ≤ 8) (he : e ≤ 8) (hf : f ≤ 8) (hg : g ≤ 8) (hi : i ≤ 8) :
    ((a + 256 * (b + 256 * (c + 256 * (d + 256 * (e + 256 * (f + 256 * (g + 256 * (i + 256 * 0)))))))) +
              (a + 256 * (b + 256 * (c + 256 * (d + 256 * (e + 256 * (f + 256 * (g + 256 * (i + 256 * 0)))))))) / 256 +
            ((a + 256 * (b + 256 * (c + 256 * (d + 256 * (e + 256 * (f + 256 * (g + 256 * (i + 256 * 0)))))))) +
                (a + 256 * (b + 256 * (c + 256 * (d + 256 * (e + 256 * (f + 256 * (g + 256 * (i + 256 * 0)))))))) / 256) /
              65536 +
          ((a + 256 * (b + 256 * (c + 256 * (d + 256 * (e + 256 * (f + 256 * (g + 256 * (i + 256 * 0)))))))) +
                (a + 256 * (b + 256 * (c + 256 * (d + 256 * (e + 256 * (f + 256 * (g + 256 * (i + 256 * 0)))))))) / 256 +
              ((a + 256 * (b + 256 * (c + 256 * (d + 256 * (e + 256 * (f + 256 * (g + 256 * (i + 256 * 0)))))))) +
                  (a + 256 * (b + 256 * (c + 256 * (d + 256 * (e + 256 * (f + 256 * (g + 256 * (i + 256 * 0)))))))) / 256) /
                65536) /
            4294967296) %
        128 = a + b + c + d + e + f + g + i := by
  have s1 : (a + 256 * (b + 256 * (c + 256 * (d + 256 * (e + 256 * (f + 256 * (g + 256 * (i + 256 * 0)))))))) / 256 = b + 256 * (c + 256 * (d + 256 * (e + 256 * (f + 256 * (g + 256 * i))))) := by omega
  rw [s1]
  have hx4 : a + 256 * (b + 256 * (c + 256 * (d + 256 * (e + 256 * (f + 256 * (g + 256 * (i + 256 * 0))))))) + (b + 256 * (c + 256 * (d + 256 * (e + 256 * (f + 256 * (g + 256 * i)))))) =
    (a + b + 256 * (b + c)) + 65536 * ((c + d) + 256 * ((d + e) + 256 * ((e + f) + 256 * ((f + g) + 256 * ((g + i) + 256 * i))))) := by omega
  rw [hx4, div_of _ _ 65536 (by omega)]
  have hx5 : (a + b + 256 * (b + c)) + 65536 * ((c + d) + 256 * ((d + e) + 256 * ((e + f) + 256 * ((f + g) + 256 * ((g + i) + 256 * i))))) + ((c + d) + 256 * ((d + e) + 256 * ((e + f) + 256 * ((f + g) + 256 * ((g + i) + 256 * i))))) =
    ((a + b + c + d) + 256 * ((b + c + d + e) + 256 * ((c + d + e + f) + 256 * (d + e + f + g)))) + 4294967296 * ((e + f + g + i) + 256 * ((f + g + i) + 256 * ((g + i) + 256 * i))) := by omega
  rw [hx5, div_of _ _ 4294967296 (by omega)]
  have hx6 : ((a + b + c + d) + 256 * ((b + c + d + e) + 256 * ((c + d + e + f) + 256 * (d + e + f + g)))) + 4294967296 * ((e + f + g + i) + 256 * ((f + g + i) + 256 * ((g + i) + 256 * i))) + ((e + f + g + i) + 256 * ((f + g + i) + 256 * ((g + i) + 256 * i))) =
    (a + b + c + d + e + f + g + i) + 128 * (2 * ((b + c + d + e + f + g + i) + 256 * ((c + d + e + f + g + i) + 256 * (d + e + f + g + i))) + 33554432 * ((e + f + g + i) + 256 * ((f + g + i) + 256 * ((g + i) + 256 * i)))) := by omega
  rw [hx6, Nat.add_mul_mod_self_left, Nat.mod_eq_of_lt (by omega)]
theorem ones64_popF (x : Nat) (h : x < 18446744073709551616) : ones64 x = popF 64 x := by
  obtain ⟨l, hl, h8, rfl⟩ := lanes x h
  have m0 : ofBytes (l.map fun _ => 85) = 6148914691236517205 := by rw [const_lanes _ _ (by simpa using h8)]
  have e1 : (ofBytes l / 2 &&& 6148914691236517205) + (ofBytes l &&& 6148914691236517205) = ofBytes (l.map lane1) := by
    rw [← m0, step1 l hl, step1' l hl, add_lanes]; rfl
  have hl1 : byteOk (l.map lane1) := fun a ha => by
    obtain ⟨b, hb, rfl⟩ := List.mem_map.1 ha
    exact (lane_all b (hl b hb)).1
  have m1 : ofBytes ((l.map lane1).map fun _ => 51) = 3689348814741910323 := by rw [const_lanes _ _ (by simpa using h8)]
  have e2 : (ofBytes (l.map lane1) / 4 &&& 3689348814741910323) + (ofBytes (l.map lane1) &&& 3689348814741910323) = ofBytes ((l.map lane1).map lane2) := by
    rw [← m1, step2 _ hl1, step2' _ hl1, add_lanes]; rfl
  have m2 : ofBytes (((l.map lane1).map lane2).map fun _ => 15) = 1085102592571150095 := by rw [const_lanes _ _ (by simpa using h8)]
  have hn : ∀ a ∈ (l.map lane1).map lane2, nib a := fun a ha => by
    rw [List.map_map] at ha
    obtain ⟨c, hc, rfl⟩ := List.mem_map.1 ha
    have h4 := lane_all c (hl c hc)
    exact ⟨h4.2.1, h4.2.2.1, h4.2.2.2.1⟩
  generalize hq2 : (l.map lane1).map lane2 = q2 at *
  have e3 : ((ofBytes q2 / 16 + ofBytes q2) &&& 1085102592571150095) = ofBytes (q2.map lane3) := by
    rw [← m2]
    exact step3 q2 hn
  have e4 : q2.map lane3 = l.map (popF 8) := by
    rw [← hq2, List.map_map, List.map_map]
    apply List.map_congr_left
    intro a ha
    exact (lane_all a (hl a ha)).2.2.2.2.1
  unfold ones64
  simp only
  rw [e1, e2, e3, e4]
  rw [show 64 = 8 * l.length by omega, popF_lanes l hl]
  have hb : ∀ p ∈ l.map (popF 8), p ≤ 8 := fun p hp => by
    obtain ⟨a, ha, rfl⟩ := List.mem_map.1 hp
    exact (lane_all a (hl a ha)).2.2.2.2.2
  have h8' : (l.map (popF 8)).length = 8 := by simpa using h8
  generalize l.map (popF 8) = q at *
  match q, h8', hb with
  | [a, b, c, d, e, f, g, i], _, hb =>
    simp only [List.mem_cons, List.not_mem_nil, or_false, forall_eq_or_imp, forall_eq] at hb
    simp only [ofBytes, List.sum_cons, List.sum_nil]
    rw [sum8 a b c d e f g i hb.1 hb.2.1 hb.2.2.1 hb.2.2.2.1 hb.2.2.2.2.1 hb.2.2.2.2.2.1 hb.2.2.2.2.2.2.1 hb.2.2.2.2.2.2.2]
    omega
theorem popF_filter : ∀ (n x : Nat), popF n x = ((List.range n).filter fun i => x.testBit i).length
  | 0, _ => rfl
  | n + 1, x => by
    rw [popF, popF_filter n (x / 2), List.range_succ_eq_map, List.filter_cons, List.filter_map, Nat.testBit_zero]
    have : ((List.range n).filter ((fun i => x.testBit i) ∘ Nat.succ)) = (List.range n).filter fun i => (x / 2).testBit i := by
      congr 1
      funext i
      simp [Nat.testBit_succ]
    rw [this]
    by_cases h : x % 2 = 1
    · simp [h]; omega
    · simp [h]; omega
end Go.Sc

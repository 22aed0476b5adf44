import Derived.Test.YtedpnjbbcfiheaaGreatDoorFLB04
import Derived.Shelf.Abstract
import Derived.Outline
import Derived.RowKit
import Derived.Lib.Hide
import Derived.Laws.BytesArg
import Derived.Lib.LazyBuf
set_option linter.unusedSimpArgs false
set_option linter.unusedSectionVars false
set_option linter.unusedVariables false
/- The number of ones of a 64-bit number, as the library computes it. -/
namespace Go.Sc

def popF : Nat → Nat → Nat
  | 0, _ => 0
  | n + 1, x => x % 2 + popF n (x / 2)
def ofBytes : List Nat → Nat
  | [] => 0
  | a :: l => a + 256 * ofBytes l
def byteOk (l : List Nat) : Prop := ∀ a ∈ l, a < 256
theorem and_lane (a y m M : Nat) (ha : a < 256) (hm : m < 256) : (a + 256 * y) &&& (m + 256 * M) = (a &&& m) + 256 * (y &&& M) := by
  apply Nat.eq_of_testBit_eq
  intro i
  have h1 : ∀ b z : Nat, b < 256 → (b + 256 * z).testBit i = if i < 8 then b.testBit i else z.testBit (i - 8) := fun b z hb => by
    rw [Nat.add_comm, show (256 : Nat) = 2 ^ 8 from rfl, Nat.testBit_two_pow_mul_add _ hb]
  have hab : a &&& m < 256 := Nat.lt_of_le_of_lt Nat.and_le_left ha
  rw [Nat.testBit_and, h1 _ _ ha, h1 _ _ hm, h1 _ _ hab]
  split <;> simp [Nat.testBit_and]
theorem step1 : ∀ l : List Nat, byteOk l → (ofBytes l / 2 &&& ofBytes (l.map fun _ => 85)) = ofBytes (l.map fun a => a / 2 &&& 85)
  | [], _ => rfl
  | a :: l, h => by
    have ha : a < 256 := h a (List.mem_cons_self ..)
    have ih := step1 l fun b hb => h b (List.mem_cons_of_mem _ hb)
    simp only [List.map_cons, ofBytes]
    have e : (a + 256 * ofBytes l) / 2 = (a / 2 + 128 * (ofBytes l % 2)) + 256 * (ofBytes l / 2) := by omega
    rw [e, and_lane _ _ _ _ (by omega) (by decide), ih]
    have hd : ∀ a, a < 256 → ∀ b, b < 2 → (a / 2 + 128 * b) &&& 85 = a / 2 &&& 85 := by decide +kernel
    rw [hd a ha _ (by omega)]
theorem step1' : ∀ l : List Nat, byteOk l → (ofBytes l &&& ofBytes (l.map fun _ => 85)) = ofBytes (l.map fun a => a &&& 85)
  | [], _ => rfl
  | a :: l, h => by
    have ih := step1' l fun b hb => h b (List.mem_cons_of_mem _ hb)
    simp only [List.map_cons, ofBytes]
    rw [and_lane _ _ _ _ (h a (List.mem_cons_self ..)) (by decide), ih]
theorem step2 : ∀ l : List Nat, byteOk l → (ofBytes l / 4 &&& ofBytes (l.map fun _ => 51)) = ofBytes (l.map fun a => a / 4 &&& 51)
  | [], _ => rfl
  | a :: l, h => by
    have ha : a < 256 := h a (List.mem_cons_self ..)
    have ih := step2 l fun b hb => h b (List.mem_cons_of_mem _ hb)
    simp only [List.map_cons, ofBytes]
    have e : (a + 256 * ofBytes l) / 4 = (a / 4 + 64 * (ofBytes l % 4)) + 256 * (ofBytes l / 4) := by omega
    rw [e, and_lane _ _ _ _ (by omega) (by decide), ih]
    have hd : ∀ a, a < 256 → ∀ b, b < 4 → (a / 4 + 64 * b) &&& 51 = a / 4 &&& 51 := by decide +kernel
    rw [hd a ha _ (by omega)]
theorem step2' : ∀ l : List Nat, byteOk l → (ofBytes l &&& ofBytes (l.map fun _ => 51)) = ofBytes (l.map fun a => a &&& 51)
  | [], _ => rfl
  | a :: l, h => by
    have ih := step2' l fun b hb => h b (List.mem_cons_of_mem _ hb)
    simp only [List.map_cons, ofBytes]
    rw [and_lane _ _ _ _ (h a (List.mem_cons_self ..)) (by decide), ih]
theorem add_lanes (f g : Nat → Nat) : ∀ l : List Nat, ofBytes (l.map f) + ofBytes (l.map g) = ofBytes (l.map fun a => f a + g a)
  | [] => rfl
  | a :: l => by
    have ih := add_lanes f g l
    simp only [List.map_cons, ofBytes]
    omega
def nib (a : Nat) : Prop := a < 256 ∧ a % 16 ≤ 4 ∧ a / 16 ≤ 4
theorem step3 : ∀ l : List Nat, (∀ a ∈ l, nib a) → ((ofBytes l / 16 + ofBytes l) &&& ofBytes (l.map fun _ => 15)) = ofBytes (l.map fun a => (a / 16 + a) &&& 15)
  | [], _ => rfl
  | a :: l, h => by
    obtain ⟨ha, h1, h2⟩ := h a (List.mem_cons_self ..)
    have ih := step3 l fun b hb => h b (List.mem_cons_of_mem _ hb)
    simp only [List.map_cons, ofBytes]
    have hl : ofBytes l % 16 ≤ 4 := by
      cases l with
      | nil => decide
      | cons b l =>
        have := (h b (List.mem_cons_of_mem _ (List.mem_cons_self ..))).2.1
        simp only [ofBytes]
        omega
    have e : (a + 256 * ofBytes l) / 16 + (a + 256 * ofBytes l) = (a / 16 + 16 * (ofBytes l % 16) + a) + 256 * (ofBytes l / 16 + ofBytes l) := by omega
    rw [e, and_lane _ _ _ _ (by omega) (by decide), ih]
    have hd : ∀ x b, (x + 16 * b) &&& 15 = x &&& 15 := fun x b => by
      rw [show (15 : Nat) = 2 ^ 4 - 1 from rfl, Nat.and_two_pow_sub_one_eq_mod, Nat.and_two_pow_sub_one_eq_mod]; omega
    rw [show a / 16 + 16 * (ofBytes l % 16) + a = a / 16 + a + 16 * (ofBytes l % 16) by omega, hd]
theorem lanes (x : Nat) (h : x < 18446744073709551616) : ∃ l, byteOk l ∧ l.length = 8 ∧ ofBytes l = x := by
  refine ⟨[x % 256, x / 256 % 256, x / 65536 % 256, x / 16777216 % 256, x / 4294967296 % 256, x / 1099511627776 % 256, x / 281474976710656 % 256, x / 72057594037927936 % 256], ?_, rfl, ?_⟩
  · intro a ha
    simp only [List.mem_cons, List.not_mem_nil, or_false] at ha
    rcases ha with rfl | rfl | rfl | rfl | rfl | rfl | rfl | rfl <;> exact Nat.mod_lt _ (by decide)
  · simp only [ofBytes]
    omega
theorem popF_split : ∀ (k n a y : Nat), a < 2 ^ k → popF (k + n) (a + 2 ^ k * y) = popF k a + popF n y
  | 0, n, a, y, h => by
    have : a = 0 := by simpa using h
    subst this
    simp [popF]
  | k + 1, n, a, y, h => by
    rw [show k + 1 + n = (k + n) + 1 by omega, popF, popF]
    have e1 : (a + 2 ^ (k + 1) * y) % 2 = a % 2 := by rw [Nat.pow_succ, Nat.mul_comm (2 ^ k) 2, Nat.mul_assoc]; omega
    have e2 : (a + 2 ^ (k + 1) * y) / 2 = a / 2 + 2 ^ k * y := by rw [Nat.pow_succ, Nat.mul_comm (2 ^ k) 2, Nat.mul_assoc]; omega
    rw [e1, e2, popF_split k n (a / 2) y (by rw [Nat.pow_succ] at h; omega)]
    omega
theorem popF_lanes : ∀ l : List Nat, byteOk l → popF (8 * l.length) (ofBytes l) = (l.map (popF 8)).sum
  | [], _ => rfl
  | a :: l, h => by
    have ih := popF_lanes l fun b hb => h b (List.mem_cons_of_mem _ hb)
    simp only [List.length_cons, ofBytes, List.map_cons, List.sum_cons]
    rw [show 8 * (l.length + 1) = 8 + 8 * l.length by omega, show (256 : Nat) = 2 ^ 8 from rfl, popF_split 8 _ a _ (h a (List.mem_cons_self ..)), ih]
def lane1 (a : Nat) : Nat := (a / 2 &&& 85) + (a &&& 85)
def lane2 (a : Nat) : Nat := (a / 4 &&& 51) + (a &&& 51)
def lane3 (a : Nat) : Nat := (a / 16 + a) &&& 15
theorem lane_all : ∀ a, a < 256 → lane1 a < 256 ∧ lane2 (lane1 a) < 256 ∧ lane2 (lane1 a) % 16 ≤ 4 ∧ lane2 (lane1 a) / 16 ≤ 4 ∧ lane3 (lane2 (lane1 a)) = popF 8 a ∧ popF 8 a ≤ 8 := by decide +kernel
def ones64 (x : Nat) : Nat :=
  let x1 := (x / 2 &&& 6148914691236517205) + (x &&& 6148914691236517205)
  let x2 := (x1 / 4 &&& 3689348814741910323) + (x1 &&& 3689348814741910323)
  let x3 := (x2 / 16 + x2) &&& 1085102592571150095
  let x4 := x3 + x3 / 256
  let x5 := x4 + x4 / 65536
  let x6 := x5 + x5 / 4294967296
  x6 % 128
theorem const_lanes (c : Nat) : ∀ l : List Nat, l.length = 8 → ofBytes (l.map fun _ => c) = c * 72340172838076673
  | [_, _, _, _, _, _, _, _], _ => by simp only [List.map_cons, List.map_nil, ofBytes]; omega
theorem div_of (r q m : Nat) (h : r < m) : (r + m * q) / m = q := by
  rw [Nat.add_mul_div_left _ _ (by omega), Nat.div_eq_of_lt h]; omega
set_option maxHeartbeats 2000000 in
theorem sum8 (a b c d e f g i : Nat) (ha : a ≤ 8) (hb : b ≤ 8) (hc : c ≤ 8) (hd : d ≤ 8) (he : e ≤ 8) (hf : f ≤ 8) (hg : g ≤ 8) (hi : i ≤ 8) :
    ((a + 256 * (b + 256 * (c + 256 * (d + 256 * (e + 256 * (f + 256 * (g + 256 * (i + 256 * 0)))))))) +
              (a + 256 * (b + 256 * (c + 256 * (d + 256 * (e + 256 * (f + 256 * (g + 256 * (i + 256 * 0)))))))) / 256 +
            ((a + 256 * (b + 256 * (c + 256 * (d + 256 * (e + 256 * (f + 256 * (g + 256 * (i + 256 * 0)))))))) +
                (a + 256 * (b + 256 * (c + 256 * (d + 256 * (e + 256 * (f + 256 * (g + 256 * (i + 256 * 0)))))))) / 256) /
              65536 +
          ((a + 256 * (b + 256 * (c + 256 * (d + 256 * (e + 256 * (f + 256 * (g + 256 * (i + 256 * 0)))))))) +
                (a + 256 * (b + 256 * (c + 256 * (d + 256 * (e + 256 * (f + 256 * (g + 256 * (i + 256 * 0)))))))) / 256 +
              ((a + 256 * (b + 256 * (c + 256 * (d + 256 * (e + 256 * (f + 256 * (g + 256 * (i + 256 * 0)))))))) +
                  (a + 256 * (b + 256 * (c + 256 * (d + 256 * (e + 256 * (f + 256 * (g + 256 * (i + 256 * 0)))))))) / 256) /
                65536) /
            4294967296) %
        128 = a + b + c + d + e + f + g + i := by
  have s1 : (a + 256 * (b + 256 * (c + 256 * (d + 256 * (e + 256 * (f + 256 * (g + 256 * (i + 256 * 0)))))))) / 256 = b + 256 * (c + 256 * (d + 256 * (e + 256 * (f + 256 * (g + 256 * i))))) := by omega
  rw [s1]
  have hx4 : a + 256 * (b + 256 * (c + 256 * (d + 256 * (e + 256 * (f + 256 * (g + 256 * (i + 256 * 0))))))) + (b + 256 * (c + 256 * (d + 256 * (e + 256 * (f + 256 * (g + 256 * i)))))) =
    (a + b + 256 * (b + c)) + 65536 * ((c + d) + 256 * ((d + e) + 256 * ((e + f) + 256 * ((f + g) + 256 * ((g + i) + 256 * i))))) := by omega
  rw [hx4, div_of _ _ 65536 (by omega)]
  have hx5 : (a + b + 256 * (b + c)) + 65536 * ((c + d) + 256 * ((d + e) + 256 * ((e + f) + 256 * ((f + g) + 256 * ((g + i) + 256 * i))))) + ((c + d) + 256 * ((d + e) + 256 * ((e + f) + 256 * ((f + g) + 256 * ((g + i) + 256 * i))))) =
    ((a + b + c + d) + 256 * ((b + c + d + e) + 256 * ((c + d + e + f) + 256 * (d + e + f + g)))) + 4294967296 * ((e + f + g + i) + 256 * ((f + g + i) + 256 * ((g + i) + 256 * i))) := by omega
  rw [hx5, div_of _ _ 4294967296 (by omega)]
  have hx6 : ((a + b + c + d) + 256 * ((b + c + d + e) + 256 * ((c + d + e + f) + 256 * (d + e + f + g)))) + 4294967296 * ((e + f + g + i) + 256 * ((f + g + i) + 256 * ((g + i) + 256 * i))) + ((e + f + g + i) + 256 * ((f + g + i) + 256 * ((g + i) + 256 * i))) =
    (a + b + c + d + e + f + g + i) + 128 * (2 * ((b + c + d + e + f + g + i) + 256 * ((c + d + e + f + g + i) + 256 * (d + e + f + g + i))) + 33554432 * ((e + f + g + i) + 256 * ((f + g + i) + 256 * ((g + i) + 256 * i)))) := by omega
  rw [hx6, Nat.add_mul_mod_self_left, Nat.mod_eq_of_lt (by omega)]
theorem ones64_popF (x : Nat) (h : x < 18446744073709551616) : ones64 x = popF 64 x := by
  obtain ⟨l, hl, h8, rfl⟩ := lanes x h
  have m0 : ofBytes (l.map fun _ => 85) = 6148914691236517205 := by rw [const_lanes _ _ (by simpa using h8)]
  have e1 : (ofBytes l / 2 &&& 6148914691236517205) + (ofBytes l &&& 6148914691236517205) = ofBytes (l.map lane1) := by
    rw [← m0, step1 l hl, step1' l hl, add_lanes]; rfl
  have hl1 : byteOk (l.map lane1) := fun a ha => by
    obtain ⟨b, hb, rfl⟩ := List.mem_map.1 ha
    exact (lane_all b (hl b hb)).1
  have m1 : ofBytes ((l.map lane1).map fun _ => 51) = 3689348814741910323 := by rw [const_lanes _ _ (by simpa using h8)]
  have e2 : (ofBytes (l.map lane1) / 4 &&& 3689348814741910323) + (ofBytes (l.map lane1) &&& 3689348814741910323) = ofBytes ((l.map lane1).map lane2) := by
    rw [← m1, step2 _ hl1, step2' _ hl1, add_lanes]; rfl
  have m2 : ofBytes (((l.map lane1).map lane2).map fun _ => 15) = 1085102592571150095 := by rw [const_lanes _ _ (by simpa using h8)]
  have hn : ∀ a ∈ (l.map lane1).map lane2, nib a := fun a ha => by
    rw [List.map_map] at ha
    obtain ⟨c, hc, rfl⟩ := List.mem_map.1 ha
    have h4 := lane_all c (hl c hc)
    exact ⟨h4.2.1, h4.2.2.1, h4.2.2.2.1⟩
  generalize hq2 : (l.map lane1).map lane2 = q2 at *
  have e3 : ((ofBytes q2 / 16 + ofBytes q2) &&& 1085102592571150095) = ofBytes (q2.map lane3) := by
    rw [← m2]
    exact step3 q2 hn
  have e4 : q2.map lane3 = l.map (popF 8) := by
    rw [← hq2, List.map_map, List.map_map]
    apply List.map_congr_left
    intro a ha
    exact (lane_all a (hl a ha)).2.2.2.2.1
  unfold ones64
  simp only
  rw [e1, e2, e3, e4]
  rw [show 64 = 8 * l.length by omega, popF_lanes l hl]
  have hb : ∀ p ∈ l.map (popF 8), p ≤ 8 := fun p hp => by
    obtain ⟨a, ha, rfl⟩ := List.mem_map.1 hp
    exact (lane_all a (hl a ha)).2.2.2.2.2
  have h8' : (l.map (popF 8)).length = 8 := by simpa using h8
  generalize l.map (popF 8) = q at *
  match q, h8', hb with
  | [a, b, c, d, e, f, g, i], _, hb =>
    simp only [List.mem_cons, List.not_mem_nil, or_false, forall_eq_or_imp, forall_eq] at hb
    simp only [ofBytes, List.sum_cons, List.sum_nil]
    rw [sum8 a b c d e f g i hb.1 hb.2.1 hb.2.2.1 hb.2.2.2.1 hb.2.2.2.2.1 hb.2.2.2.2.2.1 hb.2.2.2.2.2.2.1 hb.2.2.2.2.2.2.2]
    omega
theorem popF_filter : ∀ (n x : Nat), popF n x = ((List.range n).filter fun i => x.testBit i).length
  | 0, _ => rfl
  | n + 1, x => by
    rw [popF, popF_filter n (x / 2), List.range_succ_eq_map, List.filter_cons, List.filter_map, Nat.testBit_zero]
    have : ((List.range n).filter ((fun i => x.testBit i) ∘ Nat.succ)) = (List.range n).filter fun i => (x / 2).testBit i := by
      congr 1
      funext i
      simp [Nat.testBit_succ]
    rw [this]
    by_cases h : x % 2 = 1
    · simp [h]; omega
    · simp [h]; omega
end Go.Sc

/- IndexFunc and ContainsFunc at 64-bit numbers, whatever function is handed over that only makes memory. -/
set_option linter.unusedVariables false
namespace Go.Proofs.YtedpnjbbcfiheaaGreatDoor
open Go.RowKit Go.Sc
def AnsN (P : Program) (w : World) (F : FuncId) (cap : Array Value) (p : Nat → Bool) (xs : List Nat) : Prop :=
  ∀ W, Below w.heap.size w W → ∀ x ∈ xs, Calls P F (#[.int .u64 ((x : Nat) : Int)] ++ cap) W fun e w' => e = .returned (.bool (p x)) ∧ Below W.heap.size W w'
set_option maxRecDepth 100000 in
theorem IndexFuncN_any (v : Value) (n : Nat) (xs : List Nat) (F : FuncId) (cap : Array Value) (p : Nat → Bool) (w : World) (hr : Rd w 1 v n (u64s xs)) (hn : n ≤ 1000000) (hA : AnsN Tryz.prog w F cap p xs) (he : ∀ args W, (callFunc F args).run Tryz.prog W = .ok (.enter F args) W) :
    Calls Tryz.prog 161 #[v, .func (.func F) #[] cap] w fun e w' => e = .returned (.int .i64 (idxF p xs)) ∧ Below w.heap.size w w' := by
  have hl : xs.length = n := by have := hr.len; simpa [u64s] using this
  have HR := Lib.hid hr
  obtain ⟨A, c, rfl, h1, h2, h3, h4⟩ := hr
  have HA := Lib.hid hA
  clear hA h3
  go_enter Tryz.func161, Tryz.ntmps161
  go_wp2_with fail
  go_loopw [8] (fun i wr => ∃ k : Nat, k ≤ n ∧ i = .int .i64 k ∧ Hid (idxF p xs = goF p k (xs.drop k)) ∧ Below w.heap.size w wr) (fun i _ => n - (intOf i).toNat)
  case atStart => exact ⟨0, by omega, rfl, rfl, Below.refl _ _⟩
  case round =>
    obtain ⟨k, hk, rfl, HK, hbel⟩ := hrel
    by_cases hlt : k < n
    · obtain ⟨b, off, rfl, hc⟩ := h4 (by omega)
      obtain ⟨x, hx⟩ : ∃ x, xs[k]? = some x := ⟨xs[k]'(by omega), List.getElem?_eq_getElem _⟩
      have c1 := cell_below hbel _ _ (hc k (.int .u64 ((x : Nat) : Int)) (by simp [u64s, hx]))
      have HX : Hid (idxF p xs = if p x = true then (k : Int) else goF p (k + 1) (xs.drop (k + 1))) := by show _ = _; rw [HK.out, drop_at hx, goF]
      have HC := Lib.hid (HA.out _ hbel x (List.mem_of_getElem? hx))
      clear hx hc HK
      go_wp2_with fail
      refine HC.out.mono ?_
      rintro e w2 ⟨rfl, hb2⟩
      cases hp : p x
      · have HY : Hid (idxF p xs = goF p (k + 1) (xs.drop (k + 1))) := by show _ = _; rw [HX.out, hp]; rfl
        go_wp2_with fail
        go_roundw
        case rel => exact ⟨k + 1, by omega, by go_num, HY, hbel.trans (hb2.mono hbel.size)⟩
        case measure => simp [intOf]; omega
      · have HY : Hid (idxF p xs = (k : Int)) := by show _ = _; rw [HX.out, hp]; rfl
        go_wp2_with fail
        go_ret
        exact ⟨ret_int HY.out.symm, hbel.trans (hb2.mono hbel.size)⟩
    · obtain rfl : k = n := by omega
      have HY : Hid (idxF p xs = -1) := by show _ = _; rw [HK.out, List.drop_eq_nil_of_le (by omega)]; rfl
      go_wp2_with fail
      go_ret
      exact ⟨ret_int HY.out.symm, hbel⟩
theorem ContainsFuncN_any (v : Value) (n : Nat) (xs : List Nat) (F : FuncId) (cap : Array Value) (p : Nat → Bool) (w : World) (hr : Rd w 1 v n (u64s xs)) (hn : n ≤ 1000000) (hA : AnsN Tryz.prog w F cap p xs) (he : ∀ args W, (callFunc F args).run Tryz.prog W = .ok (.enter F args) W) :
    Calls Tryz.prog 112 #[v, .func (.func F) #[] cap] w fun e w' => e = .returned (.bool (anyF p xs)) ∧ Below w.heap.size w w' := by
  have hx := goF_lo p 0 xs
  have HG := Lib.hid (goF_any p 0 xs)
  have HI : Hid (idxF p xs = goF p 0 xs) := rfl
  have HR := Lib.hid hr
  have HA := Lib.hid hA
  clear hr hA
  go_enter Tryz.func112, Tryz.ntmps112
  go_wp2_with fail
  refine (IndexFuncN_any v n xs F cap p w HR.out hn HA.out he).mono ?_
  rintro e w2 ⟨rfl, hb2⟩
  rw [HI.out]
  generalize goF p 0 xs = i at *
  go_wp2_with fail
  go_ret
  exact ⟨ret_bool (by rw [anyF]; exact HG.out), hb2⟩
/-! ### enough -/
def missB (some m : Nat) : Bool := m != 0 && (m &&& some) == 0
def enoughB (ms : List Nat) (some : Nat) : Bool := ms.all fun m => !missB some m
theorem enClos_any (m some g : Nat) (W : World) (hc : W.cell? ⟨g, 0, none⟩ = Option.some (.int .u64 (some : Int))) (h1 : m < 18446744073709551616) (h2 : some < 18446744073709551616) :
    Calls Tryz.prog 113 #[.int .u64 (m : Int), .pointer (Option.some ⟨g, 0, none⟩)] W fun e w' => e = .returned (.bool (missB some m)) ∧ W = w' := by
  have HA := Lib.hid (u64_and_nat m some h1 h2)
  by_cases h0 : m = 0
  · subst h0
    have HM : Hid (missB some 0 = false) := by show _ = _; simp [missB]
    go_enter Tryz.func113, Tryz.ntmps113
    go_wp2
    go_ret
    exact ⟨ret_bool HM.out.symm, rfl⟩
  · have e0 : ((m : Int) == 0) = false := beq_eq_false_iff_ne.2 (by omega)
    have HM : Hid (missB some m = (((m &&& some : Nat) : Int) == 0)) := by
      show _ = _
      rw [missB, bne_iff_ne.2 h0, Bool.true_and]
      by_cases hz : m &&& some = 0
      · rw [hz]; rfl
      · rw [beq_eq_false_iff_ne.2 hz, beq_eq_false_iff_ne.2 (by omega)]
    go_enter Tryz.func113, Tryz.ntmps113
    go_wp2
    go_ret
    exact ⟨ret_bool (by rw [HM.out, ← HA.out, bne, e0]; rfl), rfl⟩
theorem enough_any (v : Value) (n : Nat) (ms : List Nat) (some : Nat) (w : World) (hr : Rd w 1 v n (u64s ms)) (hn : n ≤ 1000000) (hms : ∀ m ∈ ms, m < 18446744073709551616) (h2 : some < 18446744073709551616) :
    Calls Tryz.prog 60 #[v, .int .u64 (some : Int)] w fun e w' => e = .returned (.bool (enoughB ms some)) ∧ Below w.heap.size w w' := by
  have hbl : Below w.heap.size w (w.alloc (.cells #[.int .u64 (some : Int)] 73)) := (Below.refl _ _).alloc (Nat.le_refl _) _
  have HR := Lib.hid (hr.below hbl)
  have hcell : (w.alloc (.cells #[.int .u64 (some : Int)] 73)).cell? ⟨w.heap.size, 0, none⟩ = Option.some (.int .u64 (some : Int)) := by rw [World.cell?_alloc_at _ _ _ _ rfl]; rfl
  have HA : Hid (AnsN Tryz.prog (w.alloc (.cells #[.int .u64 (some : Int)] 73)) 113 #[.pointer (Option.some ⟨w.heap.size, 0, none⟩)] (missB some) ms) := by
    intro W hb x hx
    exact (enClos_any x some w.heap.size W (cell_below hb _ _ hcell) (hms x hx) h2).mono fun _ _ ⟨e1, e2⟩ => ⟨e1, e2 ▸ Below.refl _ _⟩
  have HE : Hid (∀ args W, (callFunc 113 args).run Tryz.prog W = .ok (.enter 113 args) W) := enters_of Tryz.func113 (by kernel_rfl) rfl
  have HX : Hid ((!anyF (missB some) ms) = enoughB ms some) := by
    show _ = _
    rw [anyF, enoughB, List.not_any_eq_all_not]
  clear hr hcell hms
  go_enter Tryz.func60, Tryz.ntmps60
  go_wp2_with fail
  refine (ContainsFuncN_any v n ms _ _ (missB some) _ HR.out hn HA.out HE.out).mono ?_
  rintro e w2 ⟨rfl, hb2⟩
  go_wp2_with fail
  go_ret
  exact ⟨ret_bool HX.out, hbl.trans (hb2.mono (by simp))⟩
end Go.Proofs.YtedpnjbbcfiheaaGreatDoor

/- Walk of OnesCount64. -/
set_option linter.unusedVariables false
namespace Go.Proofs.YtedpnjbbcfiheaaGreatDoor
open Go.RowKit Go.Sc
def sw1 (x : Nat) : Nat := (x / 2 &&& 6148914691236517205) + (x &&& 6148914691236517205)
def sw2 (x : Nat) : Nat := (x / 4 &&& 3689348814741910323) + (x &&& 3689348814741910323)
def sw3 (x : Nat) : Nat := (x / 16 + x) &&& 1085102592571150095
theorem sw1_le (x : Nat) : sw1 x ≤ 12297829382473034410 := by
  unfold sw1
  have h1 : x / 2 &&& 6148914691236517205 ≤ 6148914691236517205 := Nat.and_le_right
  have h2 : x &&& 6148914691236517205 ≤ 6148914691236517205 := Nat.and_le_right
  omega
theorem sw2_le (x : Nat) : sw2 x ≤ 7378697629483820646 := by
  unfold sw2
  have h1 : x / 4 &&& 3689348814741910323 ≤ 3689348814741910323 := Nat.and_le_right
  have h2 : x &&& 3689348814741910323 ≤ 3689348814741910323 := Nat.and_le_right
  omega
theorem sw3_le (x : Nat) : sw3 x ≤ 1085102592571150095 := Nat.and_le_right
theorem sw1_eq (x : Nat) (h : x < 18446744073709551616) : IntKind.u64.wrap (bits .and .u64 ((x : Int) / 2) 6148914691236517205 + bits .and .u64 (x : Int) 6148914691236517205) = ((sw1 x : Nat) : Int) := by
  have e1 : bits .and .u64 (((x / 2 : Nat)) : Int) ((6148914691236517205 : Nat) : Int) = _ := u64_and_nat (x / 2) 6148914691236517205 (by omega) (by decide)
  have e2 : bits .and .u64 (x : Int) ((6148914691236517205 : Nat) : Int) = _ := u64_and_nat x 6148914691236517205 h (by decide)
  have hle := sw1_le x
  rw [show ((x : Int) / 2) = ((x / 2 : Nat) : Int) by omega]
  rw [show (6148914691236517205 : Int) = ((6148914691236517205 : Nat) : Int) from rfl, e1, e2]
  rw [show (((x / 2 &&& 6148914691236517205 : Nat) : Int) + ((x &&& 6148914691236517205 : Nat) : Int)) = ((sw1 x : Nat) : Int) by unfold sw1; exact (Int.natCast_add _ _).symm]
  exact wrap_u64 _ (by omega) (by omega)
theorem sw2_eq (x : Nat) (h : x < 18446744073709551616) : IntKind.u64.wrap (bits .and .u64 ((x : Int) / 4) 3689348814741910323 + bits .and .u64 (x : Int) 3689348814741910323) = ((sw2 x : Nat) : Int) := by
  have e1 : bits .and .u64 (((x / 4 : Nat)) : Int) ((3689348814741910323 : Nat) : Int) = _ := u64_and_nat (x / 4) 3689348814741910323 (by omega) (by decide)
  have e2 : bits .and .u64 (x : Int) ((3689348814741910323 : Nat) : Int) = _ := u64_and_nat x 3689348814741910323 h (by decide)
  have hle := sw2_le x
  rw [show ((x : Int) / 4) = ((x / 4 : Nat) : Int) by omega]
  rw [show (3689348814741910323 : Int) = ((3689348814741910323 : Nat) : Int) from rfl, e1, e2]
  rw [show (((x / 4 &&& 3689348814741910323 : Nat) : Int) + ((x &&& 3689348814741910323 : Nat) : Int)) = ((sw2 x : Nat) : Int) by unfold sw2; exact (Int.natCast_add _ _).symm]
  exact wrap_u64 _ (by omega) (by omega)
theorem sw3_eq (x : Nat) (h : x ≤ 7378697629483820646) : bits .and .u64 (IntKind.u64.wrap ((x : Int) / 16 + (x : Int))) 1085102592571150095 = ((sw3 x : Nat) : Int) := by
  rw [wrap_u64 _ (by omega) (by omega), show ((x : Int) / 16 + (x : Int)) = ((x / 16 + x : Nat) : Int) by omega]
  exact u64_and_nat (x / 16 + x) 1085102592571150095 (by omega) (by decide)
theorem and127 (x : Nat) (h : x < 9223372036854775808) : bits .and .i64 (x : Int) 127 = ((x % 128 : Nat) : Int) := by
  have e := (bits_nat .i64 63 (by decide) (fun n h0 h1 => by rw [IntKind.wrap_i64]; simp at h1; omega) x 127 (by simpa using h) (by decide)).1
  rw [show (127 : Int) = ((127 : Nat) : Int) from rfl, e, show (127 : Nat) = 2 ^ 7 - 1 from rfl, Nat.and_two_pow_sub_one_eq_mod]
theorem Ones_any (m : Nat) (w : World) (h : m < 18446744073709551616) :
    Calls Tryz.prog 58 #[.int .u64 (m : Int)] w fun e w' => e = .returned (.int .i64 ((popF 64 m : Nat) : Int)) ∧ w = w' := by
  have H1 := Lib.hid (sw1_eq m h)
  have l1 := sw1_le m
  have H2 := Lib.hid (sw2_eq (sw1 m) (by omega))
  have l2 := sw2_le (sw1 m)
  have H3 := Lib.hid (sw3_eq (sw2 (sw1 m)) l2)
  have l3 := sw3_le (sw2 (sw1 m))
  have HP : Hid (ones64 m = popF 64 m) := ones64_popF m h
  have HO : Hid (ones64 m = (sw3 (sw2 (sw1 m)) + sw3 (sw2 (sw1 m)) / 256 + (sw3 (sw2 (sw1 m)) + sw3 (sw2 (sw1 m)) / 256) / 65536 + (sw3 (sw2 (sw1 m)) + sw3 (sw2 (sw1 m)) / 256 + (sw3 (sw2 (sw1 m)) + sw3 (sw2 (sw1 m)) / 256) / 65536) / 4294967296) % 128) := rfl
  clear l1 l2 l3 h
  go_enter Tryz.func58, Tryz.ntmps58
  go_wp2
  go_ret
  refine ⟨ret_int ?_, rfl⟩
  rw [H1.out, H2.out, H3.out, ← HP.out, HO.out]
  have l3 := sw3_le (sw2 (sw1 m))
  generalize sw3 (sw2 (sw1 m)) = x at *
  rw [wrap_u64 ((x : Int) + (x : Int) / 256) (by omega) (by omega)]
  rw [wrap_u64 ((x : Int) + (x : Int) / 256 + ((x : Int) + (x : Int) / 256) / 65536) (by omega) (by omega)]
  rw [wrap_u64 ((x : Int) + (x : Int) / 256 + ((x : Int) + (x : Int) / 256) / 65536 + ((x : Int) + (x : Int) / 256 + ((x : Int) + (x : Int) / 256) / 65536) / 4294967296) (by omega) (by omega)]
  rw [IntWalk.wrap64_in ((x : Int) + (x : Int) / 256 + ((x : Int) + (x : Int) / 256) / 65536 + ((x : Int) + (x : Int) / 256 + ((x : Int) + (x : Int) / 256) / 65536) / 4294967296) ⟨by omega, by omega⟩]
  rw [show ((x : Int) + (x : Int) / 256 + ((x : Int) + (x : Int) / 256) / 65536 + ((x : Int) + (x : Int) / 256 + ((x : Int) + (x : Int) / 256) / 65536) / 4294967296) = ((x + x / 256 + (x + x / 256) / 65536 + (x + x / 256 + (x + x / 256) / 65536) / 4294967296 : Nat) : Int) by omega]
  exact and127 _ (by omega)
end Go.Proofs.YtedpnjbbcfiheaaGreatDoor

/- Walk of Needed. -/
set_option linter.unusedVariables false
namespace Go.Proofs.YtedpnjbbcfiheaaGreatDoor
open Go.RowKit Go.Sc
def needM (ms : List Nat) : Nat := ms.foldl (fun a m => if popF 64 m = 1 then a ||| m else a) 0
theorem needM_snoc (l : List Nat) (m : Nat) : needM (l ++ [m]) = if popF 64 m = 1 then needM l ||| m else needM l := by
  unfold needM
  rw [List.foldl_append]
  simp only [List.foldl_cons, List.foldl_nil]
def bitsL (m long : Nat) : List Int := ((List.range long).filter fun i => m.testBit i).map Int.ofNat
theorem bitsL_succ (m i : Nat) : bitsL m (i + 1) = bitsL m i ++ (if m.testBit i then [(i : Int)] else []) := by
  unfold bitsL
  rw [List.range_succ, List.filter_append, List.map_append]
  cases h : m.testBit i <;> simp [h]
theorem bitsL_len (m i : Nat) : (bitsL m i).length ≤ i := by
  unfold bitsL
  rw [List.length_map]
  exact Nat.le_trans (List.length_filter_le _ _) (by simp)
theorem shr_and (q i : Nat) (h : q < 18446744073709551616) : bits .and .u64 ((q : Int) / 2 ^ i) 1 = if q.testBit i then 1 else 0 := by
  have hq : q / 2 ^ i < 18446744073709551616 := Nat.lt_of_le_of_lt (Nat.div_le_self _ _) h
  have e := u64_and_nat (q / 2 ^ i) 1 hq (by decide)
  have e2 : ((q : Int) / 2 ^ i) = ((q / 2 ^ i : Nat) : Int) := by rw [Int.natCast_ediv]; simp
  rw [e2, show (1 : Int) = ((1 : Nat) : Int) from rfl, e]
  rw [Nat.testBit_eq_decide_div_mod_eq, show (1 : Nat) = 2 ^ 1 - 1 from rfl, Nat.and_two_pow_sub_one_eq_mod]
  have := Nat.mod_lt (q / 2 ^ i) (show 0 < 2 by decide)
  by_cases h1 : q / 2 ^ i % 2 = 1
  · simp [h1]
  · have h0 : q / 2 ^ i % 2 = 0 := by omega
    simp [h0]
/-- the first row of a test -/
theorem head_cell {w : World} {b off : Nat} {ss : List ByteArray} (hl : 0 < ss.length) (hc : ∀ j u, (ss.map Value.string)[j]? = some u → w.cell? ⟨b, off + j, none⟩ = some u) : w.cell? ⟨b, off, none⟩ = some (.string (ss.headD ByteArray.empty)) := by
  cases ss with
  | nil => simp at hl
  | cons s t =>
    have := hc 0 (.string s) (by simp)
    simpa using this
theorem head_ok {ss : List ByteArray} (hl : 0 < ss.length) (h : okTest ss) : (ss.headD ByteArray.empty).size ≤ 64 := by
  cases ss with
  | nil => simp at hl
  | cons s t => exact (h s (List.mem_cons_self ..)).1
theorem maskN_lt (ss : List ByteArray) (fs : List (Int × List Int)) (h : okTest ss) (hl : 0 < ss.length) : ∀ m ∈ maskN ss fs, m < 18446744073709551616 := by
  intro m hm
  obtain ⟨f, _, rfl⟩ := List.mem_map.1 hm
  have hr := rowsN_lt ss h
  have ho := ones_lt (ss.headD ByteArray.empty).size (by have := head_ok hl h; omega)
  have hw := withN_lt (rowsN ss) f.1 f.2 _ hr ho
  unfold detN
  generalize List.range (rowsN ss).length = l
  have key : ∀ (l : List Nat) (a : Nat), a < 2 ^ 64 → l.foldl (fun a i => a ||| ((withN (rowsN ss) f.1 f.2 (onesN (ss.headD ByteArray.empty).size))[i]?.getD 0 ^^^ (rowsN ss)[i]?.getD 0)) a < 2 ^ 64 := by
    intro l
    induction l with
    | nil => exact fun a ha => ha
    | cons i l ih => exact fun a ha => ih _ (Nat.or_lt_two_pow ha (Nat.xor_lt_two_pow (getD_lt hw i) (getD_lt hr i)))
  exact key l 0 (by decide)
set_option maxRecDepth 100000 in
set_option maxHeartbeats 1000000 in
theorem Needed_ok (v : Value) (n : Nat) (ss : List ByteArray) (fv : Value) (fs : List (Int × List Int)) (w : World) (hr : Rd w 1 v n (ss.map .string)) (hsz : szOk ss) (hf : RdF w fv fs) (h0 : lfault ss fs = 0) :
    Calls Tryz.prog 10 #[v, fv] w fun e w' => ∃ v', e = .returned (.tuple #[v', .int .i64 0]) ∧ w'.ownsRow w.heap.size 3 1 v' (bitsL (needM (maskN ss fs)) (ss.headD ByteArray.empty).size).length ((bitsL (needM (maskN ss fs)) (ss.headD ByteArray.empty).size).map (.int .i64)) ∧ Below w.heap.size w w' := by
  obtain ⟨t0, fl, fo⟩ := lfault_ok h0
  obtain ⟨l1, l2, hok, _⟩ := tfault_ok t0
  have hl : ss.length = n := by have := hr.len; simpa using this
  have hfo : ∀ f ∈ fs, FOk n f.1 f.2 := fun f hf => by rw [← hl]; exact FOk_of (fo f hf)
  have HR := Lib.hid hr
  have HF := Lib.hid hf
  obtain ⟨A, c, rfl, h1, h2, h3, h4⟩ := hr
  obtain ⟨b, off, rfl, hc⟩ := h4 (by omega)
  have hc0 := head_cell (by omega) hc
  have hs64 := head_ok (by omega) hok
  have hml := Lib.hid (maskN_lt ss fs hok (by omega))
  have HLM : Hid ((maskN ss fs).length = fs.length) := by show _ = _; rw [maskN, List.length_map]
  have H0 := Lib.hid h0
  have hn00 : 0 < n := by omega
  have hn1 : 1 ≤ n := hn00
  have hn2 : n ≤ 100 := by omega
  generalize hs0 : ss.headD ByteArray.empty = s0 at *
  have HS0 := Lib.hid hs0
  clear hs0
  clear h0 t0 fo hc h4 h3 hf hl
  go_enter Tryz.func10, Tryz.ntmps10
  go_wp2_with fail
  refine (manyFault_any _ _ ss _ fs w HR.out hsz HF.out).mono ?_
  rintro e w1 ⟨rfl, hb1⟩
  rw [H0.out]
  go_wp2_with fail
  refine (masks_any _ _ n ss fs w1 (HR.out.below hb1) (HF.out.below hb1) hn1 hn2 hok hfo fl).mono ?_
  rintro e w2 ⟨v2, rfl, hown, hb2⟩
  have hrd2 := Rd.of_own hown
  generalize hms : maskN ss fs = ms at *
  have HMS := Lib.hid hms
  clear hms
  have hb12 : Below w.heap.size w w2 := hb1.trans (hb2.mono hb1.size)
  have hc0' := cell_below hb12 _ _ hc0
  obtain ⟨A2, c2, rfl, k1, k2, k3, k4⟩ := hrd2
  clear hown k3
  go_wp2_with fail
  go_loop [7, 22] (fun x i => ∃ j q : Nat, j ≤ fs.length ∧ i = .int .i64 j ∧ x = .int .u64 (q : Int) ∧ q < 18446744073709551616 ∧ Hid (q = needM (ms.take j))) (fun _ i => fs.length - (intOf i).toNat)
  case atStart => exact ⟨0, 0, by omega, rfl, rfl, by omega, rfl⟩
  case round =>
    obtain ⟨j, q, hj, rfl, rfl, hq, HQ⟩ := hrel
    by_cases hlt : j < fs.length
    · obtain ⟨b2, off2, rfl, hc2⟩ := k4 (by omega)
      have hj2 : j < ms.length := by rw [HLM.out]; exact hlt
      have e1 := hc2 j _ (u64s_at ms j hj2)
      have e2 := getD_lt hml.out j
      have HS : Hid (needM (ms.take (j + 1)) = if popF 64 (ms[j]?.getD 0) = 1 then q ||| ms[j]?.getD 0 else q) := by
        show _ = _
        rw [take_getD ms 0 j hj2, needM_snoc, ← HQ.out]
      clear hc2
      generalize ms[j]?.getD 0 = m at *
      by_cases hp : popF 64 m = 1
      · have e3 : (((popF 64 m : Nat) : Int) == 1) = true := by rw [hp]; rfl
        have HX := Lib.hid (u64_or_nat q m hq e2)
        have e4 : q ||| m < 18446744073709551616 := Nat.or_lt_two_pow (n := 64) hq e2
        have HS2 : Hid (q ||| m = needM (ms.take (j + 1))) := by show _ = _; rw [HS.out, if_pos hp]
        clear hp
        go_wp2_with (go_at_call 58; refine (Ones_any _ _ e2).mono ?_; rintro e w' ⟨rfl, rfl⟩)
        go_round
        case rel => exact ⟨j + 1, q ||| m, by omega, by go_num, by rw [HX.out], e4, HS2⟩
        case measure => simp [intOf]; omega
      · have e3 : (((popF 64 m : Nat) : Int) == 1) = false := beq_eq_false_iff_ne.2 (by omega)
        have HS2 : Hid (q = needM (ms.take (j + 1))) := by show _ = _; rw [HS.out, if_neg hp]
        clear hp
        go_wp2_with (go_at_call 58; refine (Ones_any _ _ e2).mono ?_; rintro e w' ⟨rfl, rfl⟩)
        go_round
        case rel => exact ⟨j + 1, q, by omega, by go_num, rfl, hq, HS2⟩
        case measure => simp [intOf]; omega
    · obtain rfl : j = fs.length := by omega
      have HQ2 : Hid (needM ms = q) := by show _ = _; rw [HQ.out, List.take_of_length_le (by rw [HLM.out]; exact Nat.le_refl _)]
      clear k4
      go_wp2_with fail
      go_loopw [10, 37] (fun v i wr => ∃ k : Nat, k ≤ s0.size ∧ i = .int .i64 k ∧ wr.ownsRow w.heap.size 3 1 v (bitsL q k).length ((bitsL q k).map (.int .i64)) ∧ Below w.heap.size w2 wr) (fun _ i _ => s0.size - (intOf i).toNat)
      case atStart => exact ⟨0, by omega, rfl, World.ownsRow_nil _ _ _ _, Below.refl _ _⟩
      case round =>
        obtain ⟨k, hk, rfl, hown, hbel⟩ := hrel
        by_cases hlt : k < s0.size
        · have HB := Lib.hid (shr_and q k hq)
          have hlen := bitsL_len q k
          have hsz1 : w.heap.size ≤ wr.heap.size := Nat.le_trans hb12.size hbel.size
          cases ht : q.testBit k
          · have HB2 : Hid (bitsL q (k + 1) = bitsL q k) := by show _ = _; rw [bitsL_succ, ht]; simp
            have hbb : (bits .and .u64 ((q : Int) / 2 ^ k) 1 == 1) = false := by rw [HB.out, ht]; rfl
            go_wp2_with fail
            go_roundw
            case rel => exact ⟨k + 1, by omega, by go_num, by rw [HB2.out]; exact hown, hbel⟩
            case measure => simp [intOf]; omega
          · have HB2 : Hid (bitsL q (k + 1) = bitsL q k ++ [(k : Int)]) := by show _ = _; rw [bitsL_succ, ht]; simp
            have hbb : (bits .and .u64 ((q : Int) / 2 ^ k) 1 == 1) = true := by rw [HB.out, ht]; rfl
            go_wp2_with (at_builtin; refine app w.heap.size rfl _ _ 22 3 (.int .i64 0) 1 8 rfl Tryz.underlying22 info3 rfl (by decide) (by decide) _ _ _ hown _ 1 rfl rfl rfl (by simp [Value.oneCell']) hsz1 (by omega) ?_; intro v1 w1 hown1 hg1 hat)
            go_roundw
            case rel => exact ⟨k + 1, by omega, by go_num, by rw [HB2.out]; simpa using hown1, hbel.grown hg1 hsz1 (fun j hj => (own_lt hown hj).1)⟩
            case measure => simp [intOf]; omega
        · obtain rfl : k = s0.size := by omega
          go_wp2_with fail
          go_ret2
          exact ⟨_, rfl, by rw [HMS.out, HQ2.out]; exact hown, hb12.trans hbel⟩
theorem Needed_bad (v : Value) (n : Nat) (ss : List ByteArray) (fv : Value) (fs : List (Int × List Int)) (w : World) (hr : Rd w 1 v n (ss.map .string)) (hsz : szOk ss) (hf : RdF w fv fs) (h0 : lfault ss fs ≠ 0) :
    Calls Tryz.prog 10 #[v, fv] w fun e w' => e = .returned (.tuple #[.slice none 0 0, .int .i64 (lfault ss fs)]) ∧ Below w.heap.size w w' := by
  have HR := Lib.hid hr
  have HF := Lib.hid hf
  have e0 : (lfault ss fs == 0) = false := beq_eq_false_iff_ne.2 h0
  clear hr hf h0
  go_enter Tryz.func10, Tryz.ntmps10
  go_wp2_with fail
  refine (manyFault_any _ _ ss _ fs w HR.out hsz HF.out).mono ?_
  rintro e w1 ⟨rfl, hb1⟩
  go_wp2_with fail
  go_ret2
  exact ⟨rfl, hb1⟩
end Go.Proofs.YtedpnjbbcfiheaaGreatDoor

/- Walk of Reduced. -/
set_option linter.unusedVariables false
namespace Go.Proofs.YtedpnjbbcfiheaaGreatDoor
open Go.RowKit Go.Sc
def u8s (l : List UInt8) : List Value := l.map fun b => .int .u8 (b.toNat : Int)
theorem u8s_map (l : List UInt8) : u8s l = (l.map fun b => (b.toNat : Int)).map (.int .u8) := by simp [u8s]
theorem own_str {P : Program} {w : World} {base n : Nat} {e' src dst e : TypeId} {v : Value} {l : List UInt8} (hs : P.underlying src = some (.slice e)) (he : P.underlying e = some (.int .u8)) (hd : P.underlying dst = some .string)
    (h : w.ownsRow base e' 1 v n (u8s l)) : (convert src dst v).run P w = .ok (.string ⟨l.toArray⟩) w := by
  have hl : l.length = n := by have := h.1; simp [u8s] at this; exact this
  rcases h.2 with ⟨rfl, rfl⟩ | ⟨g, cap, cur, rfl, _⟩
  · obtain rfl : l = [] := List.eq_nil_of_length_eq_zero hl
    exact run_convert_bytes_nil w src e hs he 0 0 dst hd
  · rw [← Lib.Lz.strOfNums_map l]
    refine run_convert_bytes_arg w src e hs he g 0 n cap (l.map fun b => (b.toNat : Int)) (by simpa using hl) (fun i hi => ?_) dst hd
    have hc := h.cells (g := g) rfl i (.int .u8 ((l.map fun b => (b.toNat : Int)).getD i 0)) (by
      rw [u8s_map, getD_map_int _ _ _ (by simpa using (by omega : i < l.length)), List.getD_eq_getElem?_getD])
    rwa [add_plain] at hc
theorem info_u8 : (Tryz.prog.info? 5).map (fun i => (i.zero, i.size, i.bytes)) = some (some (.int .u8 0), 1, 1) := by kernel_rfl
theorem info_str : (Tryz.prog.info? 9).map (fun i => (i.zero, i.size, i.bytes)) = some (some (.string ⟨#[]⟩), 1, 16) := by kernel_rfl
def pickTo (kept : Nat) (l : List UInt8) (k : Nat) : List UInt8 := ((List.range k).filter fun i => kept.testBit i).map fun i => l[i]?.getD 0
def pickB (kept : Nat) (s : ByteArray) : ByteArray := ⟨(pickTo kept s.data.toList s.size).toArray⟩
theorem pickTo_succ (kept : Nat) (l : List UInt8) (k : Nat) : pickTo kept l (k + 1) = pickTo kept l k ++ (if kept.testBit k then [l[k]?.getD 0] else []) := by
  unfold pickTo
  rw [List.range_succ, List.filter_append, List.map_append]
  cases h : kept.testBit k <;> simp [h]
theorem pickTo_len (kept : Nat) (l : List UInt8) (k : Nat) : (pickTo kept l k).length ≤ k := by
  unfold pickTo
  rw [List.length_map]
  exact Nat.le_trans (List.length_filter_le _ _) (by simp)
def redM (ms : List Nat) : Nat → Nat → Nat
  | 0, k => k
  | i + 1, k => redM ms i (if enoughB ms (k &&& (18446744073709551615 - 2 ^ i)) = true then k &&& (18446744073709551615 - 2 ^ i) else k)
theorem redM_lt (ms : List Nat) (i k : Nat) (h : k < 18446744073709551616) : redM ms i k < 18446744073709551616 := by
  induction i generalizing k with
  | zero => exact h
  | succ i ih =>
    unfold redM
    apply ih
    split
    · exact Nat.lt_of_le_of_lt Nat.and_le_left h
    · exact h
def redN (ms : List Nat) (long : Nat) : Nat := redM ms long (onesN long)
theorem shl_one (i : Nat) (h : i < 64) : IntKind.u64.wrap (2 ^ i) = ((2 ^ i : Nat) : Int) := by
  have := pow_le64 i h
  have e : (2 : Int) ^ i = ((2 ^ i : Nat) : Int) := by simp
  have hlt : 2 ^ i < 18446744073709551616 := by omega
  generalize 2 ^ i = m at *
  rw [e]
  exact wrap_u64 _ (by omega) (by omega)
set_option maxRecDepth 100000 in
set_option maxHeartbeats 1000000 in
theorem Reduced_ok (v : Value) (n : Nat) (ss : List ByteArray) (fv : Value) (fs : List (Int × List Int)) (w : World) (hr : Rd w 1 v n (ss.map .string)) (hsz : szOk ss) (hf : RdF w fv fs) (h0 : lfault ss fs = 0) :
    Calls Tryz.prog 11 #[v, fv] w fun e w' => ∃ v', e = .returned (.tuple #[v', .int .i64 0]) ∧ w'.ownsRow w.heap.size 9 1 v' n ((ss.map (pickB (redN (maskN ss fs) (ss.headD ByteArray.empty).size))).map .string) ∧ Below w.heap.size w w' := by
  obtain ⟨t0, fl, fo⟩ := lfault_ok h0
  obtain ⟨l1, l2, hok, _⟩ := tfault_ok t0
  have hl : ss.length = n := by have := hr.len; simpa using this
  have hfo : ∀ f ∈ fs, FOk n f.1 f.2 := fun f hf => by rw [← hl]; exact FOk_of (fo f hf)
  have HR := Lib.hid hr
  have HF := Lib.hid hf
  obtain ⟨A, c, rfl, h1, h2, h3, h4⟩ := hr
  obtain ⟨b, off, rfl, hc⟩ := h4 (by omega)
  have hc0 := head_cell (by omega) hc
  have hs64 := head_ok (by omega) hok
  have hml := Lib.hid (maskN_lt ss fs hok (by omega))
  have HLM : Hid ((maskN ss fs).length = fs.length) := by show _ = _; rw [maskN, List.length_map]
  have H0 := Lib.hid h0
  have HC := Lib.hid hc
  have HL := Lib.hid hl
  have HOK := Lib.hid hok
  have hn00 : 0 < n := by omega
  have hn1 : 1 ≤ n := hn00
  have hn2 : n ≤ 100 := by omega
  generalize hs0 : ss.headD ByteArray.empty = s0 at *
  have HS0 := Lib.hid hs0
  clear hs0
  clear h0 t0 fo hc h4 h3 hf hl
  go_enter Tryz.func11, Tryz.ntmps11
  go_wp2_with fail
  refine (manyFault_any _ _ ss _ fs w HR.out hsz HF.out).mono ?_
  rintro e w1 ⟨rfl, hb1⟩
  rw [H0.out]
  go_wp2_with fail
  refine (masks_any _ _ n ss fs w1 (HR.out.below hb1) (HF.out.below hb1) hn1 hn2 hok hfo fl).mono ?_
  rintro e w2 ⟨v2, rfl, hown, hb2⟩
  have hrd2 := Lib.hid (Rd.of_own hown)
  generalize hms : maskN ss fs = ms at *
  have HMS := Lib.hid hms
  clear hms
  have hb12 : Below w.heap.size w w2 := hb1.trans (hb2.mono hb1.size)
  have hc0' := cell_below hb12 _ _ hc0
  clear hown
  have hol := ones_lt (s0.size : Int) (by omega)
  go_wp2_with fail
  refine (whole_any _ (by omega) (by omega) _).mono ?_
  rintro e w' ⟨rfl, rfl⟩
  have HRN : Hid (redN ms s0.size = redM ms s0.size (onesN s0.size)) := rfl
  generalize onesN s0.size = q0 at *
  go_wp2_with fail
  go_loopw [8, 9] (fun x i wr => ∃ j q : Nat, j ≤ s0.size ∧ i = .int .i64 ((j : Int) - 1) ∧ x = .int .u64 (q : Int) ∧ q < 18446744073709551616 ∧ Hid (redN ms s0.size = redM ms j q) ∧ Below w2.heap.size w2 wr) (fun _ i _ => (intOf i + 1).toNat)
  case atStart => exact ⟨s0.size, q0, by omega, rfl, rfl, hol, HRN, Below.refl _ _⟩
  case round =>
    obtain ⟨j, q, hj, rfl, rfl, hq, HQ, hbel⟩ := hrel
    by_cases hlt : 0 < j
    · obtain ⟨j, rfl⟩ : ∃ j', j = j' + 1 := ⟨j - 1, by omega⟩
      have HSH := Lib.hid (shl_one j (by omega))
      have hp := pow_le64 j (by omega)
      have HAN := Lib.hid (u64_andNot_nat q (2 ^ j) hq (by omega))
      have hq2 : q &&& (18446744073709551615 - 2 ^ j) < 18446744073709551616 := Nat.lt_of_le_of_lt Nat.and_le_left hq
      have HQ2 : Hid (redN ms s0.size = redM ms j (if enoughB ms (q &&& (18446744073709551615 - 2 ^ j)) = true then q &&& (18446744073709551615 - 2 ^ j) else q)) := HQ
      have HJ : Hid (((j + 1 : Nat) : Int) - 1 = (j : Int)) := by show _ = _; omega
      rw [HJ.out]
      generalize hg : q &&& (18446744073709551615 - 2 ^ j) = r at *
      have HG := Lib.hid hg
      clear hg hp
      go_wp2_with fail
      rw [HSH.out, HAN.out]
      refine (enough_any v2 fs.length ms r wr (hrd2.out.below hbel) (by omega) hml.out hq2).mono ?_
      rintro e w3 ⟨rfl, hb3⟩
      have hbel3 : Below w2.heap.size w2 w3 := hbel.trans (hb3.mono hbel.size)
      cases he : enoughB ms r
      · have HQ3 : Hid (redN ms s0.size = redM ms j q) := by show _ = _; rw [HQ2.out, if_neg (by rw [he]; decide)]
        go_wp2_with fail
        go_roundw
        case rel => exact ⟨j, q, by omega, rfl, rfl, hq, HQ3, hbel3⟩
        case measure => simp [intOf]
      · have HQ3 : Hid (redN ms s0.size = redM ms j r) := by show _ = _; rw [HQ2.out, if_pos he]
        go_wp2_with fail
        go_roundw
        case rel => exact ⟨j, r, by omega, rfl, rfl, hq2, HQ3, hbel3⟩
        case measure => simp [intOf]
    · obtain rfl : j = 0 := by omega
      have HQ2 : Hid (redN ms s0.size = q) := HQ
      have hb3 : Below w.heap.size w wr := hb12.trans (hbel.mono hb12.size)
      have HJ : Hid (((0 : Nat) : Int) - 1 = -1) := by show _ = _; omega
      rw [HJ.out]
      clear hbel hc0'
      obtain ⟨w4, hw4⟩ : ∃ w4, w4 = wr := ⟨_, rfl⟩
      rw [← hw4] at hb3 ⊢
      clear hw4
      go_wp2_with fail
      go_loopw [11, 49] (fun v i wr => ∃ k : Nat, k ≤ n ∧ i = .int .i64 k ∧ wr.ownsRow w.heap.size 9 1 v k (((ss.take k).map (pickB q)).map .string) ∧ Below w.heap.size w wr) (fun _ i _ => n - (intOf i).toNat)
      case atStart => exact ⟨0, by omega, rfl, by simpa using World.ownsRow_nil _ _ _ _, hb3⟩
      case round =>
        obtain ⟨k, hk, rfl, hown, hbel⟩ := hrel
        by_cases hlt : k < n
        · obtain ⟨s, hsk⟩ : ∃ s, ss[k]? = some s := ⟨ss[k]'(by rw [HL.out]; exact hlt), List.getElem?_eq_getElem _⟩
          have hcell : wr.cell? ⟨b, off + k, none⟩ = some (.string s) := cell_below hbel _ _ (HC.out k (.string s) (by simp [hsk]))
          have hsz64 : s.size ≤ 64 := (HOK.out s (List.mem_of_getElem? hsk)).1
          have hsize := hbel.size
          have HT : Hid (((ss.take (k + 1)).map (pickB q)).map Value.string = ((ss.take k).map (pickB q)).map Value.string ++ [.string (pickB q s)]) := by
            have e : ss[k]'(by rw [HL.out]; exact hlt) = s := by rw [List.getElem?_eq_getElem (by rw [HL.out]; exact hlt)] at hsk; simpa using hsk
            show _ = _
            rw [List.take_succ_eq_append_getElem (by rw [HL.out]; exact hlt), List.map_append, List.map_append, e]; rfl
          clear hsk
          obtain ⟨w5, hw5⟩ : ∃ w5, w5 = wr := ⟨_, rfl⟩
          rw [← hw5] at hown hbel hcell hsize ⊢
          clear hw5
          go_wp2_with fail
          go_loopw [14, 55] (fun v i wr => ∃ k2 : Nat, k2 ≤ s.size ∧ i = .int .i64 k2 ∧ wr.ownsRow w5.heap.size 5 1 v (pickTo q s.data.toList k2).length (u8s (pickTo q s.data.toList k2)) ∧ Below w5.heap.size w5 wr) (fun _ i _ => s.size - (intOf i).toNat)
          case atStart => exact ⟨0, by omega, rfl, World.ownsRow_nil _ _ _ _, Below.refl _ _⟩
          case round =>
            obtain ⟨k2, hk2, rfl, hownb, hbel2⟩ := hrel
            by_cases hlt2 : k2 < s.size
            · have HB := Lib.hid (shr_and q k2 hq)
              have hlen := pickTo_len q s.data.toList k2
              have hsz2 := hbel2.size
              cases ht : q.testBit k2
              · have HB2 : Hid (pickTo q s.data.toList (k2 + 1) = pickTo q s.data.toList k2) := by show _ = _; rw [pickTo_succ, ht]; simp
                have hbb : (bits .and .u64 ((q : Int) / 2 ^ k2) 1 == 1) = false := by rw [HB.out, ht]; rfl
                go_wp2_with fail
                go_roundw
                case rel => exact ⟨k2 + 1, by omega, by go_num, by rw [HB2.out]; exact hownb, hbel2⟩
                case measure => simp [intOf]; omega
              · have HB2 : Hid (pickTo q s.data.toList (k2 + 1) = pickTo q s.data.toList k2 ++ [s[k2]'hlt2]) := by
                  show _ = _; rw [pickTo_succ, ht, List.getElem?_eq_getElem (by simpa using hlt2)]; rfl
                have hbb : (bits .and .u64 ((q : Int) / 2 ^ k2) 1 == 1) = true := by rw [HB.out, ht]; rfl
                go_wp2_with (at_builtin; refine app w5.heap.size rfl _ _ 79 5 (.int .u8 0) 1 1 rfl Tryz.underlying79 info_u8 rfl (by decide) (by decide) _ _ _ hownb _ 1 rfl rfl rfl (by simp [Value.oneCell']) hsz2 (by omega) ?_; intro v1 w1 hown1 hg1 hat)
                go_roundw
                case rel => exact ⟨k2 + 1, by omega, by go_num, by rw [HB2.out]; simpa [u8s] using hown1, hbel2.grown hg1 hsz2 (fun j hj => (own_lt hownb hj).1)⟩
                case measure => simp [intOf]; omega
            · obtain rfl : k2 = s.size := by omega
              have hown2 := own_below hown hbel2
              have hcv := own_str (P := Tryz.prog) (src := 79) (dst := 9) Tryz.underlying79 Tryz.underlying5 Tryz.underlying9 hownb
              have hsz2 := hbel2.size
              have hsz3 : w.heap.size ≤ wr.heap.size := Nat.le_trans hsize hsz2
              have HPB : Hid ((⟨(pickTo q s.data.toList s.size).toArray⟩ : ByteArray) = pickB q s) := rfl
              rw [HPB.out] at hcv
              clear hownb hown
              go_wp2_with (at_builtin; refine app w.heap.size rfl _ _ 26 9 (.string ⟨#[]⟩) 1 16 rfl Tryz.underlying26 info_str rfl (by decide) (by decide) _ _ _ hown2 _ 1 rfl rfl rfl (by simp [Value.oneCell']) hsz3 (by omega) ?_; intro v1 w1 hown1 hg1 hat)
              go_roundw
              case rel => exact ⟨k + 1, by omega, by go_num, by rw [HT.out]; simpa using hown1, (hbel.trans (hbel2.mono hsize)).grown hg1 hsz3 (fun j hj => (own_lt hown2 hj).1)⟩
              case measure => simp [intOf]; omega
        · obtain rfl : k = n := by omega
          have HTK : Hid (ss.take k = ss) := List.take_of_length_le (by rw [HL.out]; exact Nat.le_refl _)
          go_wp2_with fail
          go_ret2
          exact ⟨_, rfl, by rw [HMS.out, HQ2.out]; rw [HTK.out] at hown; exact hown, hbel⟩
theorem Reduced_bad (v : Value) (n : Nat) (ss : List ByteArray) (fv : Value) (fs : List (Int × List Int)) (w : World) (hr : Rd w 1 v n (ss.map .string)) (hsz : szOk ss) (hf : RdF w fv fs) (h0 : lfault ss fs ≠ 0) :
    Calls Tryz.prog 11 #[v, fv] w fun e w' => e = .returned (.tuple #[.slice none 0 0, .int .i64 (lfault ss fs)]) ∧ Below w.heap.size w w' := by
  have HR := Lib.hid hr
  have HF := Lib.hid hf
  have e0 : (lfault ss fs == 0) = false := beq_eq_false_iff_ne.2 h0
  clear hr hf h0
  go_enter Tryz.func11, Tryz.ntmps11
  go_wp2_with fail
  refine (manyFault_any _ _ ss _ fs w HR.out hsz HF.out).mono ?_
  rintro e w1 ⟨rfl, hb1⟩
  go_wp2_with fail
  go_ret2
  exact ⟨rfl, hb1⟩
end Go.Proofs.YtedpnjbbcfiheaaGreatDoor

/- Walk of seenBit. -/
set_option linter.unusedVariables false
namespace Go.Proofs.YtedpnjbbcfiheaaGreatDoor
open Go.RowKit Go.Sc
def byteAt (ss : List ByteArray) (n v : Nat) : UInt8 := (ss[n]?.getD ByteArray.empty).data.toList[v]?.getD 0
def onesIn (ss : List ByteArray) (ns : List Int) (v : Nat) : Int := (ns.map fun n => ((byteAt ss n.toNat v).toNat : Int) - 48).sum
def seenV (ss : List ByteArray) (k : Int) (ns : List Int) (net v : Nat) : UInt8 :=
  if conB ns net = false then byteAt ss net v
  else if k = 5 then byteAt ss (ns[0]?.getD 0).toNat v
  else if k = 2 ∨ k = 6 then 49
  else if k = 3 then (if onesIn ss ns v = ns.length then 49 else 48)
  else if k = 4 then (if 0 < onesIn ss ns v then 49 else 48)
  else 48
theorem byteAt_eq {ss : List ByteArray} {n v : Nat} {s : ByteArray} (h : ss[n]? = some s) (hv : v < s.size) : byteAt ss n v = s[v]'hv := by
  unfold byteAt
  rw [h]
  show (s.data.toList[v]?).getD 0 = _
  rw [List.getElem?_eq_getElem (by simpa using hv)]
  rfl
theorem byteAt_01 {ss : List ByteArray} {n v : Nat} {s : ByteArray} (h : ss[n]? = some s) (hv : v < s.size) (hb : bits01 s = true) : byteAt ss n v = 48 ∨ byteAt ss n v = 49 := by
  rw [byteAt_eq h hv]
  exact bits01_at hb v hv
theorem sum_snoc (l : List Int) (x : Int) : (l ++ [x]).sum = l.sum + x := by
  induction l with
  | nil => simp
  | cons y l ih => simp only [List.cons_append, List.sum_cons, ih]; omega
set_option maxRecDepth 100000 in
set_option maxHeartbeats 1000000 in
theorem seenBit_any (tv fv : Value) (n : Nat) (ss : List ByteArray) (k : Int) (ns : List Int) (net v z : Nat) (w : World) (hr : Rd w 1 tv n (ss.map .string)) (hf : FV w fv k ns) (hok : okTest ss) (hz : ∀ s ∈ ss, s.size = z) (hn : n ≤ 100)
    (hfo : FOk n k ns) (hnet : net < n) (hv : v < z) :
    Calls Tryz.prog 128 #[tv, fv, .int .i64 net, .int .i64 v] w fun e w' => e = .returned (.int .u8 ((seenV ss k ns net v).toNat : Int)) ∧ Below w.heap.size w w' := by
  have hl : ss.length = n := by have := hr.len; simpa using this
  have hget : ∀ i, i < n → ∃ s, ss[i]? = some s ∧ s.size = z ∧ bits01 s = true := fun i hi => by
    refine ⟨ss[i]'(by omega), List.getElem?_eq_getElem _, hz _ (List.getElem_mem _), (hok _ (List.getElem_mem _)).2⟩
  obtain ⟨A, c, rfl, h1, h2, h3, h4⟩ := hr
  obtain ⟨b, off, rfl, hc⟩ := h4 (by omega)
  obtain ⟨nv, rfl, hnv⟩ := hf
  have hbl : Below w.heap.size w (w.alloc (.cells #[.int .i64 k, nv] 60)) := (Below.refl _ _).alloc (Nat.le_refl _) _
  have HNV := Lib.hid (hnv.below hbl)
  obtain ⟨A2, c2, rfl, g1, g2, g3, g4⟩ := hnv
  obtain ⟨b2, off2, rfl, hc2⟩ := g4 (by have := hfo.one; omega)
  have HC : Hid (∀ i s, ss[i]? = some s → (w.alloc (.cells #[.int .i64 k, .slice (some ⟨b2, off2, none⟩) ns.length c2] 60)).cell? ⟨b, off + i, none⟩ = some (.string s)) := fun i s hs =>
    cell_below hbl _ _ (hc i (.string s) (by simp [hs]))
  have HC2 : Hid (∀ i, i < ns.length → (w.alloc (.cells #[.int .i64 k, .slice (some ⟨b2, off2, none⟩) ns.length c2] 60)).cell? ⟨b2, off2 + i, none⟩ = some (.int .i64 (ns[i]?.getD 0))) := fun i hi =>
    cell_below hbl _ _ (hc2 i _ (getD_map_int _ _ _ hi))
  have HNS : Hid (∀ i, i < ns.length → 0 ≤ ns[i]?.getD 0 ∧ ns[i]?.getD 0 < n) := fun i hi => by
    rw [List.getElem?_eq_getElem hi]; exact hfo.nets _ (List.getElem_mem _)
  have hm1 := hfo.one
  have hm6 := hfo.six
  have HG := Lib.hid hget
  have HK0 : Hid ((w.alloc (.cells #[.int .i64 k, .slice (some ⟨b2, off2, none⟩) ns.length c2] 60)).cell? ⟨w.heap.size, 0, none⟩ = some (.int .i64 k)) := by show _ = _; rw [World.cell?_alloc_at _ _ _ _ rfl]; rfl
  have HK1 : Hid ((w.alloc (.cells #[.int .i64 k, .slice (some ⟨b2, off2, none⟩) ns.length c2] 60)).cell? ⟨w.heap.size, 1, none⟩ = some (.slice (some ⟨b2, off2, none⟩) ns.length c2)) := by show _ = _; rw [World.cell?_alloc_at _ _ _ _ rfl]; rfl
  clear hget hc hc2 h3 h4 g3 g4 hl
  cases hcon : conB ns net
  case false =>
    have HX : Hid (seenV ss k ns net v = byteAt ss net v) := by show _ = _; rw [seenV, if_pos hcon]
    obtain ⟨s, hs1, hs2, hs3⟩ := HG.out net hnet
    have hvs : v < s.size := by omega
    have HB := Lib.hid (byteAt_eq hs1 hvs)
    have c1 := HC.out net s hs1
    clear hs1 hs2 hs3
    go_enter Tryz.func128, Tryz.ntmps128
    go_wp2_with (go_at_call 44; refine (Contains_any _ _ ns _ _ HNV.out (by omega)).mono ?_; rintro e w' ⟨rfl, rfl⟩)
    go_ret
    exact ⟨ret_int (by rw [HX.out, HB.out]), hbl⟩
  case true =>
  have HX : Hid (seenV ss k ns net v = if k = 5 then byteAt ss (ns[0]?.getD 0).toNat v
    else if k = 2 ∨ k = 6 then 49
    else if k = 3 then (if onesIn ss ns v = ns.length then 49 else 48)
    else if k = 4 then (if 0 < onesIn ss ns v then 49 else 48) else 48) := by show _ = _; rw [seenV, if_neg (by rw [hcon]; decide)]
  have HON : Hid (onesIn ss ns v = (ns.map fun n => ((byteAt ss n.toNat v).toNat : Int) - 48).sum) := rfl
  have HTK : Hid (∀ m, m = ns.length → ns.take m = ns) := fun m h => by rw [h]; exact List.take_length
  have HT : Hid (∀ j, j < ns.length → ns.take (j + 1) = ns.take j ++ [ns[j]?.getD 0]) := fun j hj => take_getD ns 0 j hj
  go_enter Tryz.func128, Tryz.ntmps128
  go_wp2_with (go_at_call 44; refine (Contains_any _ _ ns _ _ HNV.out (by omega)).mono ?_; rintro e w' ⟨rfl, rfl⟩)
  generalize ns.length = m at *
  generalize (w.alloc (.cells #[.int .i64 k, .slice (some ⟨b2, off2, none⟩) m c2] 60)) = W at *
  have k0 := HK0.out
  have k1 := HK1.out
  go_loop [9, 27] (fun x i => ∃ j : Nat, ∃ q : Int, j ≤ m ∧ i = .int .i64 j ∧ x = .int .i64 q ∧ 0 ≤ q ∧ q ≤ j ∧ Hid (q = onesIn ss (ns.take j) v)) (fun _ i => m - (intOf i).toNat)
  case atStart => exact ⟨0, 0, by omega, rfl, rfl, by omega, by omega, rfl⟩
  case round =>
    obtain ⟨j, q, hj, rfl, rfl, hq0, hq1, HQ⟩ := hrel
    by_cases hlt : j < m
    · have e1 := HC2.out j hlt
      obtain ⟨e2, e3⟩ := HNS.out j hlt
      have HTJ := Lib.hid (HT.out j hlt)
      generalize ns[j]?.getD 0 = x at *
      obtain ⟨x, rfl⟩ := Int.eq_ofNat_of_zero_le e2
      obtain ⟨s, hs1, hs2, hs3⟩ := HG.out x (by omega)
      have c1 := HC.out x s hs1
      have hvs : v < s.size := by omega
      have HB := Lib.hid (byteAt_eq hs1 hvs)
      have h01 := bits01_at hs3 v hvs
      have hb1 : 48 ≤ ((s[v]'hvs).toNat : Int) := by rcases h01 with h | h <;> rw [h] <;> decide
      have hb2 : ((s[v]'hvs).toNat : Int) ≤ 49 := by rcases h01 with h | h <;> rw [h] <;> decide
      have HQ2 : Hid (q + (((s[v]'hvs).toNat : Int) - 48) = onesIn ss (ns.take (j + 1)) v) := by
        show _ = _
        rw [HTJ.out, onesIn, List.map_append, List.map_cons, List.map_nil, sum_snoc, HQ.out, onesIn, show (((x : Nat) : Int)).toNat = x from rfl, HB.out]
      clear hs1 hs2 hs3 h01
      go_wp2_with fail
      go_round
      case rel => exact ⟨j + 1, q + (((s[v]'hvs).toNat : Int) - 48), by omega, by go_num, by rfl, by omega, by omega, HQ2⟩
      case measure => simp [intOf]; omega
    · obtain rfl : j = m := by omega
      have HQ2 : Hid (onesIn ss ns v = q) := by show _ = _; rw [HQ.out, HTK.out j rfl]
      have HX2 : Hid (seenV ss k ns net v = if k = 5 then byteAt ss (ns[0]?.getD 0).toNat v
        else if k = 2 ∨ k = 6 then 49
        else if k = 3 then (if q = j then 49 else 48)
        else if k = 4 then (if 0 < q then 49 else 48) else 48) := by show _ = _; rw [HX.out, HQ2.out]
      clear HX HQ HON
      have e : k = 5 ∨ k = 2 ∨ k = 6 ∨ k = 3 ∨ k = 4 ∨ (k ≠ 5 ∧ k ≠ 2 ∧ k ≠ 6 ∧ k ≠ 3 ∧ k ≠ 4) := by omega
      rcases e with rfl | rfl | rfl | rfl | rfl | ⟨k5, k2, k6, k3, k4⟩
      · have HX3 : Hid (seenV ss 5 ns net v = byteAt ss (ns[0]?.getD 0).toNat v) := by show _ = _; rw [HX2.out]; rfl
        have e1 : W.cell? ⟨b2, off2, none⟩ = some (.int .i64 (ns[0]?.getD 0)) := by have := HC2.out 0 (by omega); simpa using this
        obtain ⟨e2, e3⟩ := HNS.out 0 (by omega)
        generalize ns[0]?.getD 0 = x at *
        obtain ⟨x, rfl⟩ := Int.eq_ofNat_of_zero_le e2
        obtain ⟨s, hs1, hs2, hs3⟩ := HG.out x (by omega)
        have c1 := HC.out x s hs1
        have hvs : v < s.size := by omega
        have HB := Lib.hid (byteAt_eq hs1 hvs)
        have hj0 : 0 < j := by omega
        clear hs1 hs2 hs3 HX2
        go_wp2_with fail
        go_ret
        exact ⟨ret_int (by rw [HX3.out, show (((x : Nat) : Int)).toNat = x from rfl, HB.out]), hbl⟩
      · have HX3 : Hid (seenV ss 2 ns net v = 49) := by show _ = _; rw [HX2.out]; rfl
        go_wp2_with fail
        go_ret
        exact ⟨ret_int (by rw [HX3.out]; rfl), hbl⟩
      · have HX3 : Hid (seenV ss 6 ns net v = 49) := by show _ = _; rw [HX2.out]; rfl
        go_wp2_with fail
        go_ret
        exact ⟨ret_int (by rw [HX3.out]; rfl), hbl⟩
      · have HX3 : Hid (seenV ss 3 ns net v = if q = j then 49 else 48) := by show _ = _; rw [HX2.out]; rfl
        by_cases hqj : q = j
        · have HX4 : Hid (seenV ss 3 ns net v = 49) := by show _ = _; rw [HX3.out, if_pos hqj]
          have eb : (q == (j : Int)) = true := beq_iff_eq.2 hqj
          clear hqj HX3 HX2
          go_wp2_with fail
          go_ret
          exact ⟨ret_int (by rw [HX4.out]; rfl), hbl⟩
        · have HX4 : Hid (seenV ss 3 ns net v = 48) := by show _ = _; rw [HX3.out, if_neg hqj]
          have eb : (q == (j : Int)) = false := beq_eq_false_iff_ne.2 hqj
          clear hqj HX3 HX2
          go_wp2_with fail
          go_ret
          exact ⟨ret_int (by rw [HX4.out]; rfl), hbl⟩
      · have HX3 : Hid (seenV ss 4 ns net v = if 0 < q then 49 else 48) := by show _ = _; rw [HX2.out]; rfl
        by_cases hqj : 0 < q
        · have HX4 : Hid (seenV ss 4 ns net v = 49) := by show _ = _; rw [HX3.out, if_pos hqj]
          clear HX3 HX2
          go_wp2_with fail
          go_ret
          exact ⟨ret_int (by rw [HX4.out]; rfl), hbl⟩
        · have HX4 : Hid (seenV ss 4 ns net v = 48) := by show _ = _; rw [HX3.out, if_neg hqj]
          clear HX3 HX2
          go_wp2_with fail
          go_ret
          exact ⟨ret_int (by rw [HX4.out]; rfl), hbl⟩
      · have HX3 : Hid (seenV ss k ns net v = 48) := by show _ = _; rw [HX2.out]; simp [k5, k2, k6, k3, k4]
        have b1 : (k == 5) = false := by simp [k5]
        have b2' : (k == 2) = false := by simp [k2]
        have b3 : (k == 6) = false := by simp [k6]
        have b4 : (k == 3) = false := by simp [k3]
        have b5 : (k == 4) = false := by simp [k4]
        clear k5 k2 k6 k3 k4 HX2
        go_wp2_with fail
        go_ret
        exact ⟨ret_int (by rw [HX3.out]; rfl), hbl⟩
end Go.Proofs.YtedpnjbbcfiheaaGreatDoor

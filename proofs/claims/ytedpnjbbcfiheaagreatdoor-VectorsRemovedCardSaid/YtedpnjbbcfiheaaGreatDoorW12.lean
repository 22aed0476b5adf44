/- Walk of Needed. -/
import Derived.Test.YtedpnjbbcfiheaaGreatDoorX4
import Derived.Test.YtedpnjbbcfiheaaGreatDoorW11
set_option linter.unusedVariables false
namespace Go.Proofs.YtedpnjbbcfiheaaGreatDoor
open Go.RowKit Go.Sc
def needM (ms : List Nat) : Nat := ms.foldl (fun a m => if popF 64 m = 1 then a ||| m else a) 0
theorem needM_snoc (l : List Nat) (m : Nat) : needM (l ++ [m]) = if popF 64 m = 1 then needM l ||| m else needM l := by
  unfold needM
  rw [List.foldl_append]
  simp only [List.foldl_cons, List.foldl_nil]
def bitsL (m long : Nat) : List Int := ((List.range long).filter fun i => m.testBit i).map Int.ofNat
theorem bitsL_succ (m i : Nat) : bitsL m (i + 1) = bitsL m i ++ (if m.testBit i then [(i : Int)] else []) := by
  unfold bitsL
  rw [List.range_succ, List.filter_append, List.map_append]
  cases h : m.testBit i <;> simp [h]
theorem bitsL_len (m i : Nat) : (bitsL m i).length ≤ i := by
  unfold bitsL
  rw [List.length_map]
  exact Nat.le_trans (List.length_filter_le _ _) (by simp)
theorem shr_and (q i : Nat) (h : q < 18446744073709551616) : bits .and .u64 ((q : Int) / 2 ^ i) 1 = if q.testBit i then 1 else 0 := by
  have hq : q / 2 ^ i < 18446744073709551616 := Nat.lt_of_le_of_lt (Nat.div_le_self _ _) h
  have e := u64_and_nat (q / 2 ^ i) 1 hq (by decide)
  have e2 : ((q : Int) / 2 ^ i) = ((q / 2 ^ i : Nat) : Int) := by rw [Int.natCast_ediv]; simp
  rw [e2, show (1 : Int) = ((1 : Nat) : Int) from rfl, e]
  rw [Nat.testBit_eq_decide_div_mod_eq, show (1 : Nat) = 2 ^ 1 - 1 from rfl, Nat.and_two_pow_sub_one_eq_mod]
  have := Nat.mod_lt (q / 2 ^ i) (show 0 < 2 by decide)
  by_cases h1 : q / 2 ^ i % 2 = 1
  · simp [h1]
  · have h0 : q / 2 ^ i % 2 = 0 := by omega
    simp [h0]
/-- the first row of a test -/
theorem head_cell {w : World} {b off : Nat} {ss : List ByteArray} (hl : 0 < ss.length) (hc : ∀ j u, (ss.map Value.string)[j]? = some u → w.cell? ⟨b, off + j, none⟩ = some u) : w.cell? ⟨b, off, none⟩ = some (.string (ss.headD ByteArray.empty)) := by
  cases ss with
  | nil => simp at hl
  | cons s t =>
    have := hc 0 (.string s) (by simp)
    simpa using this
theorem head_ok {ss : List ByteArray} (hl : 0 < ss.length) (h : okTest ss) : (ss.headD ByteArray.empty).size ≤ 64 := by
  cases ss with
  | nil => simp at hl
  | cons s t => exact (h s (List.mem_cons_self ..)).1
theorem maskN_lt (ss : List ByteArray) (fs : List (Int × List Int)) (h : okTest ss) (hl : 0 < ss.length) : ∀ m ∈ maskN ss fs, m < 18446744073709551616 := by
  intro m hm
  obtain ⟨f, _, rfl⟩ := List.mem_map.1 hm
  have hr := rowsN_lt ss h
  have ho := ones_lt (ss.headD ByteArray.empty).size (by have := head_ok hl h; omega)
  have hw := withN_lt (rowsN ss) f.1 f.2 _ hr ho
  unfold detN
  generalize List.range (rowsN ss).length = l
  have key : ∀ (l : List Nat) (a : Nat), a < 2 ^ 64 → l.foldl (fun a i => a ||| ((withN (rowsN ss) f.1 f.2 (onesN (ss.headD ByteArray.empty).size))[i]?.getD 0 ^^^ (rowsN ss)[i]?.getD 0)) a < 2 ^ 64 := by
    intro l
    induction l with
    | nil => exact fun a ha => ha
    | cons i l ih => exact fun a ha => ih _ (Nat.or_lt_two_pow ha (Nat.xor_lt_two_pow (getD_lt hw i) (getD_lt hr i)))
  exact key l 0 (by decide)
set_option maxRecDepth 100000 in
set_option maxHeartbeats 1000000 in
theorem Needed_ok (v : Value) (n : Nat) (ss : List ByteArray) (fv : Value) (fs : List (Int × List Int)) (w : World) (hr : Rd w 1 v n (ss.map .string)) (hsz : szOk ss) (hf : RdF w fv fs) (h0 : lfault ss fs = 0) :
    Calls Tryz.prog 10 #[v, fv] w fun e w' => ∃ v', e = .returned (.tuple #[v', .int .i64 0]) ∧ w'.ownsRow w.heap.size 3 1 v' (bitsL (needM (maskN ss fs)) (ss.headD ByteArray.empty).size).length ((bitsL (needM (maskN ss fs)) (ss.headD ByteArray.empty).size).map (.int .i64)) ∧ Below w.heap.size w w' := by
  obtain ⟨t0, fl, fo⟩ := lfault_ok h0
  obtain ⟨l1, l2, hok, _⟩ := tfault_ok t0
  have hl : ss.length = n := by have := hr.len; simpa using this
  have hfo : ∀ f ∈ fs, FOk n f.1 f.2 := fun f hf => by rw [← hl]; exact FOk_of (fo f hf)
  have HR := Lib.hid hr
  have HF := Lib.hid hf
  obtain ⟨A, c, rfl, h1, h2, h3, h4⟩ := hr
  obtain ⟨b, off, rfl, hc⟩ := h4 (by omega)
  have hc0 := head_cell (by omega) hc
  have hs64 := head_ok (by omega) hok
  have hml := Lib.hid (maskN_lt ss fs hok (by omega))
  have HLM : Hid ((maskN ss fs).length = fs.length) := by show _ = _; rw [maskN, List.length_map]
  have H0 := Lib.hid h0
  have hn00 : 0 < n := by omega
  have hn1 : 1 ≤ n := hn00
  have hn2 : n ≤ 100 := by omega
  generalize hs0 : ss.headD ByteArray.empty = s0 at *
  have HS0 := Lib.hid hs0
  clear hs0
  clear h0 t0 fo hc h4 h3 hf hl
  go_enter Tryz.func10, Tryz.ntmps10
  go_wp2_with fail
  refine (manyFault_any _ _ ss _ fs w HR.out hsz HF.out).mono ?_
  rintro e w1 ⟨rfl, hb1⟩
  rw [H0.out]
  go_wp2_with fail
  refine (masks_any _ _ n ss fs w1 (HR.out.below hb1) (HF.out.below hb1) hn1 hn2 hok hfo fl).mono ?_
  rintro e w2 ⟨v2, rfl, hown, hb2⟩
  have hrd2 := Rd.of_own hown
  generalize hms : maskN ss fs = ms at *
  have HMS := Lib.hid hms
  clear hms
  have hb12 : Below w.heap.size w w2 := hb1.trans (hb2.mono hb1.size)
  have hc0' := cell_below hb12 _ _ hc0
  obtain ⟨A2, c2, rfl, k1, k2, k3, k4⟩ := hrd2
  clear hown k3
  go_wp2_with fail
  go_loop [7, 22] (fun x i => ∃ j q : Nat, j ≤ fs.length ∧ i = .int .i64 j ∧ x = .int .u64 (q : Int) ∧ q < 18446744073709551616 ∧ Hid (q = needM (ms.take j))) (fun _ i => fs.length - (intOf i).toNat)
  case atStart => exact ⟨0, 0, by omega, rfl, rfl, by omega, rfl⟩
  case round =>
    obtain ⟨j, q, hj, rfl, rfl, hq, HQ⟩ := hrel
    by_cases hlt : j < fs.length
    · obtain ⟨b2, off2, rfl, hc2⟩ := k4 (by omega)
      have hj2 : j < ms.length := by rw [HLM.out]; exact hlt
      have e1 := hc2 j _ (u64s_at ms j hj2)
      have e2 := getD_lt hml.out j
      have HS : Hid (needM (ms.take (j + 1)) = if popF 64 (ms[j]?.getD 0) = 1 then q ||| ms[j]?.getD 0 else q) := by
        show _ = _
        rw [take_getD ms 0 j hj2, needM_snoc, ← HQ.out]
      clear hc2
      generalize ms[j]?.getD 0 = m at *
      by_cases hp : popF 64 m = 1
      · have e3 : (((popF 64 m : Nat) : Int) == 1) = true := by rw [hp]; rfl
        have HX := Lib.hid (u64_or_nat q m hq e2)
        have e4 : q ||| m < 18446744073709551616 := Nat.or_lt_two_pow (n := 64) hq e2
        have HS2 : Hid (q ||| m = needM (ms.take (j + 1))) := by show _ = _; rw [HS.out, if_pos hp]
        clear hp
        go_wp2_with (go_at_call 58; refine (Ones_any _ _ e2).mono ?_; rintro e w' ⟨rfl, rfl⟩)
        go_round
        case rel => exact ⟨j + 1, q ||| m, by omega, by go_num, by rw [HX.out], e4, HS2⟩
        case measure => simp [intOf]; omega
      · have e3 : (((popF 64 m : Nat) : Int) == 1) = false := beq_eq_false_iff_ne.2 (by omega)
        have HS2 : Hid (q = needM (ms.take (j + 1))) := by show _ = _; rw [HS.out, if_neg hp]
        clear hp
        go_wp2_with (go_at_call 58; refine (Ones_any _ _ e2).mono ?_; rintro e w' ⟨rfl, rfl⟩)
        go_round
        case rel => exact ⟨j + 1, q, by omega, by go_num, rfl, hq, HS2⟩
        case measure => simp [intOf]; omega
    · obtain rfl : j = fs.length := by omega
      have HQ2 : Hid (needM ms = q) := by show _ = _; rw [HQ.out, List.take_of_length_le (by rw [HLM.out]; exact Nat.le_refl _)]
      clear k4
      go_wp2_with fail
      go_loopw [10, 37] (fun v i wr => ∃ k : Nat, k ≤ s0.size ∧ i = .int .i64 k ∧ wr.ownsRow w.heap.size 3 1 v (bitsL q k).length ((bitsL q k).map (.int .i64)) ∧ Below w.heap.size w2 wr) (fun _ i _ => s0.size - (intOf i).toNat)
      case atStart => exact ⟨0, by omega, rfl, World.ownsRow_nil _ _ _ _, Below.refl _ _⟩
      case round =>
        obtain ⟨k, hk, rfl, hown, hbel⟩ := hrel
        by_cases hlt : k < s0.size
        · have HB := Lib.hid (shr_and q k hq)
          have hlen := bitsL_len q k
          have hsz1 : w.heap.size ≤ wr.heap.size := Nat.le_trans hb12.size hbel.size
          cases ht : q.testBit k
          · have HB2 : Hid (bitsL q (k + 1) = bitsL q k) := by show _ = _; rw [bitsL_succ, ht]; simp
            have hbb : (bits .and .u64 ((q : Int) / 2 ^ k) 1 == 1) = false := by rw [HB.out, ht]; rfl
            go_wp2_with fail
            go_roundw
            case rel => exact ⟨k + 1, by omega, by go_num, by rw [HB2.out]; exact hown, hbel⟩
            case measure => simp [intOf]; omega
          · have HB2 : Hid (bitsL q (k + 1) = bitsL q k ++ [(k : Int)]) := by show _ = _; rw [bitsL_succ, ht]; simp
            have hbb : (bits .and .u64 ((q : Int) / 2 ^ k) 1 == 1) = true := by rw [HB.out, ht]; rfl
            go_wp2_with (at_builtin; refine app w.heap.size rfl _ _ 22 3 (.int .i64 0) 1 8 rfl Tryz.underlying22 info3 rfl (by decide) (by decide) _ _ _ hown _ 1 rfl rfl rfl (by simp [Value.oneCell']) hsz1 (by omega) ?_; intro v1 w1 hown1 hg1 hat)
            go_roundw
            case rel => exact ⟨k + 1, by omega, by go_num, by rw [HB2.out]; simpa using hown1, hbel.grown hg1 hsz1 (fun j hj => (own_lt hown hj).1)⟩
            case measure => simp [intOf]; omega
        · obtain rfl : k = s0.size := by omega
          go_wp2_with fail
          go_ret2
          exact ⟨_, rfl, by rw [HMS.out, HQ2.out]; exact hown, hb12.trans hbel⟩
theorem Needed_bad (v : Value) (n : Nat) (ss : List ByteArray) (fv : Value) (fs : List (Int × List Int)) (w : World) (hr : Rd w 1 v n (ss.map .string)) (hsz : szOk ss) (hf : RdF w fv fs) (h0 : lfault ss fs ≠ 0) :
    Calls Tryz.prog 10 #[v, fv] w fun e w' => e = .returned (.tuple #[.slice none 0 0, .int .i64 (lfault ss fs)]) ∧ Below w.heap.size w w' := by
  have HR := Lib.hid hr
  have HF := Lib.hid hf
  have e0 : (lfault ss fs == 0) = false := beq_eq_false_iff_ne.2 h0
  clear hr hf h0
  go_enter Tryz.func10, Tryz.ntmps10
  go_wp2_with fail
  refine (manyFault_any _ _ ss _ fs w HR.out hsz HF.out).mono ?_
  rintro e w1 ⟨rfl, hb1⟩
  go_wp2_with fail
  go_ret2
  exact ⟨rfl, hb1⟩
end Go.Proofs.YtedpnjbbcfiheaaGreatDoor

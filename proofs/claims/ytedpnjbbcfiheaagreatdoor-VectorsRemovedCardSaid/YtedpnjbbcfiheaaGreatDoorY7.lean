/- Walk of Smallest. -/
import Derived.Test.YtedpnjbbcfiheaaGreatDoorY6
import Derived.Test.YtedpnjbbcfiheaaGreatDoorP2
set_option linter.unusedVariables false
namespace Go.Proofs.YtedpnjbbcfiheaaGreatDoor
open Go.RowKit Go.Sc
theorem popF_le : ∀ (n x : Nat), popF n x ≤ n
  | 0, _ => Nat.le_refl _
  | n + 1, x => by rw [popF]; have := popF_le n (x / 2); omega
theorem negN_lt (d : Nat) : negN d < 18446744073709551616 := by unfold negN; split <;> omega
theorem neg_wrap (d : Nat) (h : d < 18446744073709551616) : IntKind.u64.wrap (-(d : Int)) = ((negN d : Nat) : Int) := by
  by_cases h0 : d = 0
  · subst h0; rfl
  · rw [negN, if_neg h0]
    simp only [IntKind.wrap, IntKind.bits, IntKind.signed]
    simp
    omega
theorem smP_lt (ms : List Nat) (z M : Nat) (hz : z ≤ 64) (hM : M ≤ 2 ^ z) : smP ms z M < 18446744073709551616 := by
  have h2 : 2 ^ z ≤ 2 ^ 64 := Nat.pow_le_pow_right (by decide) hz
  have e64 : (2 : Nat) ^ 64 = 18446744073709551616 := by decide
  have hp : 0 < 2 ^ z := Nat.two_pow_pos z
  induction M with
  | zero => unfold smP; simp only [List.range_zero, List.foldl_nil]; rw [ones_val]; omega
  | succ M ih =>
    have := ih (by omega)
    rw [smP_succ, smPs]
    split
    · exact this
    · split
      · omega
      · exact this
theorem skip_of {s b : Nat} (y : Nat) (hy : y = s &&& ((s ^^^ b) &&& negN (s ^^^ b))) : skipB s b = (decide (popF 64 b < popF 64 s) || (decide (popF 64 s = popF 64 b) && y == 0)) := by subst hy; rfl
theorem two_pow_u64 (k : Nat) (h : k < 16384) : IntKind.u64.wrap ((k : Int) + 1) = ((k + 1 : Nat) : Int) := by
  rw [wrap_u64 _ (by omega) (by omega)]; omega
set_option maxRecDepth 100000 in
set_option maxHeartbeats 2000000 in
theorem Smallest_ok (v : Value) (n : Nat) (ss : List ByteArray) (fv : Value) (fs : List (Int × List Int)) (w : World) (hr : Rd w 1 v n (ss.map .string)) (hsz : szOk ss) (hf : RdF w fv fs) (h0 : lfault ss fs = 0) (hz14 : (ss.headD ByteArray.empty).size ≤ 14) (h12 : fs.length ≤ 12) :
    Calls Tryz.prog 12 #[v, fv] w fun e w' => ∃ v' l, e = .returned (.tuple #[v', .int .i64 0]) ∧ l = bitsL (smP (maskN ss fs) (ss.headD ByteArray.empty).size (2 ^ (ss.headD ByteArray.empty).size - 1)) (ss.headD ByteArray.empty).size ∧ w'.ownsRow w.heap.size 3 1 v' l.length (l.map (.int .i64)) ∧ Below w.heap.size w w' := by
  obtain ⟨t0, fl, fo⟩ := lfault_ok h0
  obtain ⟨l1, l2, hok, _⟩ := tfault_ok t0
  have hl : ss.length = n := by have := hr.len; simpa using this
  have hfo : ∀ f ∈ fs, FOk n f.1 f.2 := fun f hf => by rw [← hl]; exact FOk_of (fo f hf)
  have HR := Lib.hid hr
  have HF := Lib.hid hf
  obtain ⟨A, c, rfl, h1, h2, h3, h4⟩ := hr
  obtain ⟨b, off, rfl, hc⟩ := h4 (by omega)
  have hc0 := head_cell (by omega) hc
  have hs64 := head_ok (by omega) hok
  have hml := Lib.hid (maskN_lt ss fs hok (by omega))
  have HLM : Hid ((maskN ss fs).length = fs.length) := by show _ = _; rw [maskN, List.length_map]
  have H0 := Lib.hid h0
  have hn00 : 0 < n := by omega
  have hn1 : 1 ≤ n := hn00
  have hn2 : n ≤ 100 := by omega
  generalize hs0 : ss.headD ByteArray.empty = s0 at *
  have HS0 := Lib.hid hs0
  clear hs0
  have hp0 : 2 ^ s0.size ≤ 2 ^ 14 := Nat.pow_le_pow_right (by decide) hz14
  have hp1 : 0 < 2 ^ s0.size := Nat.two_pow_pos _
  have HON : Hid (onesN (s0.size : Int) = 2 ^ s0.size - 1) := ones_val s0.size
  clear h0 t0 fo hc h4 h3 hf hl
  obtain ⟨A2, c2, rfl, _, _, _⟩ := HF.out
  go_enter Tryz.func12, Tryz.ntmps12
  go_wp2_with fail
  refine (manyFault_any _ _ ss _ fs w HR.out hsz HF.out).mono ?_
  rintro e w1 ⟨rfl, hb1⟩
  rw [H0.out]
  have hc1 := cell_below hb1 _ _ hc0
  go_wp2_with fail
  refine (masks_any _ _ n ss fs w1 (HR.out.below hb1) (HF.out.below hb1) hn1 hn2 hok hfo fl).mono ?_
  rintro e w2 ⟨v2, rfl, hown, hb2⟩
  have hrd2 := Rd.of_own hown
  generalize hms : maskN ss fs = ms at *
  have HMS := Lib.hid hms
  clear hms hown
  go_wp2_with fail
  refine (Values_gives v2 fs.length ms w2 hrd2).mono ?_
  rintro e w3 ⟨v3, rfl, hg3, hb3⟩
  go_wp2_with fail
  refine (Sorted_any v3 ms w3 hg3 (by rw [HLM.out]; exact h12)).mono ?_
  rintro e w4 ⟨v4, l4, rfl, hp4, hown4, hb4⟩
  have HP4 := Lib.hid hp4
  clear hrd2 hg3 hp4
  obtain ⟨A4, c4, rfl, _, _, _, _⟩ := Rd.of_own hown4
  have HC4 := Lib.hid (Compact64_own _ _ _ _ _ hown4 (by rw [HLM.out]; omega))
  have hb14 : Below w.heap.size w w4 := hb1.trans ((hb2.trans ((hb3.trans (hb4.mono hb3.size)).mono hb2.size)).mono hb1.size)
  have hsz3 : w.heap.size ≤ w3.heap.size := Nat.le_trans hb1.size (Nat.le_trans hb2.size hb3.size)
  have HBG : Hid (∀ w5, w4.grownBy w5 (Value.slice A4 ms.length c4).ownBlock → Below w.heap.size w w5) := fun w5 h => hb14.grown h hb14.size (fun j hj => by have := (own_lt hown4 hj).1; omega)
  clear hown4
  go_wp2_with fail
  refine HC4.out.mono ?_
  rintro e w5 ⟨v5, rfl, hown5, hg5⟩
  have hb5 := HBG.out _ hg5
  have hrd5 := Lib.hid (Rd.of_own hown5)
  obtain ⟨A5, c5, rfl, _, _, _, _⟩ := Rd.of_own hown5
  have HMEM : Hid (∀ m, m ∈ Lib.compact l4 ↔ m ∈ ms) := fun m => (compact_mem l4 m).trans HP4.out.mem_iff
  have HLEN : Hid ((Lib.compact l4).length ≤ 12) := by
    have e1 := compact_len l4
    have e2 := HP4.out.length_eq
    have e3 := HLM.out
    show _ ≤ _
    omega
  have hml5 : Hid (∀ m ∈ Lib.compact l4, m < 18446744073709551616) := fun m hm => hml.out m ((HMEM.out m).1 hm)
  have HSP : Hid (∀ M, smP (Lib.compact l4) s0.size M = smP ms s0.size M) := fun M => smP_congr _ _ _ _ HMEM.out
  generalize Lib.compact l4 = ns at *
  clear hown5 hg5 HMEM
  go_wp2_with fail
  refine (whole_any _ (by omega) (by omega) _).mono ?_
  rintro e w' ⟨rfl, rfl⟩
  go_wp2_with fail
  refine (whole_any _ (by omega) (by omega) _).mono ?_
  rintro e w' ⟨rfl, rfl⟩
  rw [HON.out]
  have HST : Hid (smP ns s0.size 0 = 2 ^ s0.size - 1) := by show _ = _; rw [← HON.out]; rfl
  generalize hM : 2 ^ s0.size - 1 = M at *
  have HM : Hid (2 ^ s0.size - 1 = M) := hM
  have hM2 : M < 16384 := by omega
  have HLT : Hid (∀ k, k ≤ M → smP ns s0.size k < 18446744073709551616) := fun k hk => smP_lt ns s0.size k (by omega) (by omega)
  clear hM
  go_wp2_with fail
  go_loopw [9, 37] (fun x i wr => ∃ k q : Nat, k ≤ M ∧ i = .int .u64 (k : Int) ∧ x = .int .u64 (q : Int) ∧ q < 18446744073709551616 ∧ Hid (smP ns s0.size k = q) ∧ Below w5.heap.size w5 wr) (fun _ i _ => M - (intOf i).toNat)
  case atStart => exact ⟨0, M, by omega, rfl, rfl, by omega, HST, Below.refl _ _⟩
  case round =>
    obtain ⟨k, q, hk, rfl, rfl, hq, HQ, hbel⟩ := hrel
    by_cases hlt : k < M
    · have hk64 : k < 18446744073709551616 := by omega
      have HS : Hid (smP ns s0.size (k + 1) = if skipB k q = true then q else if enoughB ns k = true then k else q) := by show _ = _; rw [smP_succ, HQ.out]; rfl
      have hd : k ^^^ q < 18446744073709551616 := Nat.xor_lt_two_pow (n := 64) hk64 hq
      have HX1 := Lib.hid (u64_xor_nat k q hk64 hq)
      have HX2 := Lib.hid (neg_wrap (k ^^^ q) hd)
      have hnn := negN_lt (k ^^^ q)
      have HX3 := Lib.hid (u64_and_nat (k ^^^ q) (negN (k ^^^ q)) hd hnn)
      have HX4 := Lib.hid (u64_and_nat k ((k ^^^ q) &&& negN (k ^^^ q)) hk64 (Nat.lt_of_le_of_lt Nat.and_le_left hd))
      have HSK := Lib.hid (fun y (hy : y = k &&& ((k ^^^ q) &&& negN (k ^^^ q))) => skip_of (s := k) (b := q) y hy)
      have p1 := popF_le 64 k
      have p2 := popF_le 64 q
      generalize k ^^^ q = d at *
      generalize negN d = nd at *
      generalize d &&& nd = x at *
      generalize hy : k &&& x = y at *
      have HSK2 := HSK.out y rfl
      have HSK3 := Lib.hid HSK2
      clear hy HSK HSK2 hnn hd
      have x1 := HX1.out
      have x2 := HX2.out
      have x3 := HX3.out
      have x4 := HX4.out
      have HE := Lib.hid (enough_any _ _ ns k wr (hrd5.out.below hbel) (by have := HLEN.out; omega) hml5.out hk64)
      have O1 := Lib.hid (Ones_any k wr hk64)
      have O2 := Lib.hid (Ones_any q wr hq)
      generalize popF 64 k = pk at *
      generalize popF 64 q = pq at *
      by_cases hA : pq < pk
      · have HS2 : Hid (smP ns s0.size (k + 1) = q) := by show _ = _; rw [HS.out, HSK3.out, decide_eq_true hA]; rfl
        go_wp2_with fail
        refine O1.out.mono ?_
        rintro e w' ⟨rfl, rfl⟩
        go_wp2_with fail
        refine O2.out.mono ?_
        rintro e w' ⟨rfl, rfl⟩
        go_wp2_with fail
        go_roundw
        case rel => exact ⟨k + 1, q, by omega, by go_num, rfl, hq, HS2, hbel⟩
        case measure => simp [intOf]; omega
      · have hAd : decide (pq < pk) = false := decide_eq_false hA
        by_cases hB : pk = pq
        · by_cases hC : y = 0
          · have hyb : ((y : Int) == 0) = true := beq_iff_eq.2 (by omega)
            have HS2 : Hid (smP ns s0.size (k + 1) = q) := by show _ = _; rw [HS.out, HSK3.out, decide_eq_true hB, hC]; simp
            have he : (((pk : Int) - (pq : Int)) == 0) = true := beq_iff_eq.2 (by omega)
            clear HSK3 HS hC
            have HB := Lib.hid hB
            clear hB
            go_wp2_with fail
            refine O1.out.mono ?_
            rintro e w' ⟨rfl, rfl⟩
            go_wp2_with fail
            refine O2.out.mono ?_
            rintro e w' ⟨rfl, rfl⟩
            go_wp2_with fail
            go_roundw
            case rel => exact ⟨k + 1, q, by omega, by go_num, rfl, hq, HS2, hbel⟩
            case measure => simp [intOf]; omega
          · have hyb : ((y : Int) == 0) = false := beq_eq_false_iff_ne.2 (by omega)
            have HS1 : Hid (smP ns s0.size (k + 1) = if enoughB ns k = true then k else q) := by
              show _ = _
              rw [HS.out, HSK3.out, hAd, beq_eq_false_iff_ne.2 hC]; simp
            have he : (((pk : Int) - (pq : Int)) == 0) = true := beq_iff_eq.2 (by omega)
            clear HSK3 HS hC
            have HB := Lib.hid hB
            clear hB
            go_wp2_with fail
            refine O1.out.mono ?_
            rintro e w' ⟨rfl, rfl⟩
            go_wp2_with fail
            refine O2.out.mono ?_
            rintro e w' ⟨rfl, rfl⟩
            go_wp2_with fail
            refine HE.out.mono ?_
            rintro e w6 ⟨rfl, hb6⟩
            have hbel6 := hbel.trans (hb6.mono hbel.size)
            cases hee : enoughB ns k
            · have HS2 : Hid (smP ns s0.size (k + 1) = q) := by show _ = _; rw [HS1.out, hee]; rfl
              go_wp2_with fail
              go_roundw
              case rel => exact ⟨k + 1, q, by omega, by go_num, rfl, hq, HS2, hbel6⟩
              case measure => simp [intOf]; omega
            · have HS2 : Hid (smP ns s0.size (k + 1) = k) := by show _ = _; rw [HS1.out, hee]; rfl
              go_wp2_with fail
              go_roundw
              case rel => exact ⟨k + 1, k, by omega, by go_num, rfl, hk64, HS2, hbel6⟩
              case measure => simp [intOf]; omega
        · have HS1 : Hid (smP ns s0.size (k + 1) = if enoughB ns k = true then k else q) := by
            show _ = _
            rw [HS.out, HSK3.out, hAd, decide_eq_false hB]; simp
          have he : (((pk : Int) - (pq : Int)) == 0) = false := beq_eq_false_iff_ne.2 (by omega)
          clear HSK3 HS
          go_wp2_with fail
          refine O1.out.mono ?_
          rintro e w' ⟨rfl, rfl⟩
          go_wp2_with fail
          refine O2.out.mono ?_
          rintro e w' ⟨rfl, rfl⟩
          go_wp2_with fail
          refine HE.out.mono ?_
          rintro e w6 ⟨rfl, hb6⟩
          have hbel6 := hbel.trans (hb6.mono hbel.size)
          cases hee : enoughB ns k
          · have HS2 : Hid (smP ns s0.size (k + 1) = q) := by show _ = _; rw [HS1.out, hee]; rfl
            go_wp2_with fail
            go_roundw
            case rel => exact ⟨k + 1, q, by omega, by go_num, rfl, hq, HS2, hbel6⟩
            case measure => simp [intOf]; omega
          · have HS2 : Hid (smP ns s0.size (k + 1) = k) := by show _ = _; rw [HS1.out, hee]; rfl
            go_wp2_with fail
            go_roundw
            case rel => exact ⟨k + 1, k, by omega, by go_num, rfl, hk64, HS2, hbel6⟩
            case measure => simp [intOf]; omega
    · obtain rfl : k = M := by omega
      have HQ2 : Hid (smP ms s0.size k = q) := (HSP.out k).symm.trans HQ.out
      have hbel7 : Below w.heap.size w wr := hb5.trans (hbel.mono hb5.size)
      clear hbel hb5
      obtain ⟨w7, hw7⟩ : ∃ w7, w7 = wr := ⟨_, rfl⟩
      rw [← hw7] at hbel7 ⊢
      clear hw7
      go_wp2_with fail
      go_loopw [13, 69] (fun v i wr => ∃ j : Nat, j ≤ s0.size ∧ i = .int .i64 j ∧ wr.ownsRow w.heap.size 3 1 v (bitsL q j).length ((bitsL q j).map (.int .i64)) ∧ Below w.heap.size w wr) (fun _ i _ => s0.size - (intOf i).toNat)
      case atStart => exact ⟨0, by omega, rfl, World.ownsRow_nil _ _ _ _, hbel7⟩
      case round =>
        obtain ⟨j, hj, rfl, hown, hbel⟩ := hrel
        by_cases hlt : j < s0.size
        · have HB := Lib.hid (shr_and q j hq)
          have hlen := bitsL_len q j
          have hsz1 : w.heap.size ≤ wr.heap.size := hbel.size
          cases ht : q.testBit j
          · have HB2 : Hid (bitsL q (j + 1) = bitsL q j) := by show _ = _; rw [bitsL_succ, ht]; simp
            have hbb : (bits .and .u64 ((q : Int) / 2 ^ j) 1 == 1) = false := by rw [HB.out, ht]; rfl
            go_wp2_with fail
            go_roundw
            case rel => exact ⟨j + 1, by omega, by go_num, by rw [HB2.out]; exact hown, hbel⟩
            case measure => simp [intOf]; omega
          · have HB2 : Hid (bitsL q (j + 1) = bitsL q j ++ [(j : Int)]) := by show _ = _; rw [bitsL_succ, ht]; simp
            have hbb : (bits .and .u64 ((q : Int) / 2 ^ j) 1 == 1) = true := by rw [HB.out, ht]; rfl
            go_wp2_with (at_builtin; refine app w.heap.size rfl _ _ 22 3 (.int .i64 0) 1 8 rfl Tryz.underlying22 info3 rfl (by decide) (by decide) _ _ _ hown _ 1 rfl rfl rfl (by simp [Value.oneCell']) hsz1 (by omega) ?_; intro v1 w1 hown1 hg1 hat)
            go_roundw
            case rel => exact ⟨j + 1, by omega, by go_num, by rw [HB2.out]; simpa using hown1, hbel.grown hg1 hsz1 (fun j hj => (own_lt hown hj).1)⟩
            case measure => simp [intOf]; omega
        · obtain rfl : j = s0.size := by omega
          go_wp2_with fail
          go_ret2
          exact ⟨_, _, rfl, by rw [HMS.out, HM.out, HQ2.out], hown, hbel⟩
set_option maxRecDepth 100000 in
theorem Smallest_big (v : Value) (n : Nat) (ss : List ByteArray) (fv : Value) (fs : List (Int × List Int)) (w : World) (hr : Rd w 1 v n (ss.map .string)) (hsz : szOk ss) (hf : RdF w fv fs) (h0 : lfault ss fs = 0) (hz14 : 14 < (ss.headD ByteArray.empty).size) :
    Calls Tryz.prog 12 #[v, fv] w fun e w' => e = .returned (.tuple #[.slice none 0 0, .int .i64 2]) ∧ Below w.heap.size w w' := by
  obtain ⟨t0, fl, fo⟩ := lfault_ok h0
  obtain ⟨l1, l2, hok, _⟩ := tfault_ok t0
  have hl : ss.length = n := by have := hr.len; simpa using this
  have HR := Lib.hid hr
  have HF := Lib.hid hf
  obtain ⟨A, c, rfl, h1, h2, h3, h4⟩ := hr
  obtain ⟨b, off, rfl, hc⟩ := h4 (by omega)
  have hc0 := head_cell (by omega) hc
  have hs64 := head_ok (by omega) hok
  have H0 := Lib.hid h0
  have hn00 : 0 < n := by omega
  generalize ss.headD ByteArray.empty = s0 at *
  clear h0 t0 fo hc h4 h3 hf hl
  obtain ⟨A2, c2, rfl, _, _, _⟩ := HF.out
  go_enter Tryz.func12, Tryz.ntmps12
  go_wp2_with fail
  refine (manyFault_any _ _ ss _ fs w HR.out hsz HF.out).mono ?_
  rintro e w1 ⟨rfl, hb1⟩
  rw [H0.out]
  have hc1 := cell_below hb1 _ _ hc0
  go_wp2_with fail
  go_ret2
  exact ⟨rfl, hb1⟩
theorem Smallest_bad (v : Value) (n : Nat) (ss : List ByteArray) (fv : Value) (fs : List (Int × List Int)) (w : World) (hr : Rd w 1 v n (ss.map .string)) (hsz : szOk ss) (hf : RdF w fv fs) (h0 : lfault ss fs ≠ 0) :
    Calls Tryz.prog 12 #[v, fv] w fun e w' => e = .returned (.tuple #[.slice none 0 0, .int .i64 (lfault ss fs)]) ∧ Below w.heap.size w w' := by
  have HR := Lib.hid hr
  have HF := Lib.hid hf
  have e0 : (lfault ss fs == 0) = false := beq_eq_false_iff_ne.2 h0
  clear hr hf h0
  go_enter Tryz.func12, Tryz.ntmps12
  go_wp2_with fail
  refine (manyFault_any _ _ ss _ fs w HR.out hsz HF.out).mono ?_
  rintro e w1 ⟨rfl, hb1⟩
  go_wp2_with fail
  go_ret2
  exact ⟨rfl, hb1⟩
end Go.Proofs.YtedpnjbbcfiheaaGreatDoor

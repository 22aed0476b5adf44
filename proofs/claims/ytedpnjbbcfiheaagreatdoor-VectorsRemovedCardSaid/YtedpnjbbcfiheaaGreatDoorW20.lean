/- Walk of SmallestOf. -/
import Derived.Test.YtedpnjbbcfiheaaGreatDoorW19
import Derived.Test.YtedpnjbbcfiheaaGreatDoorW12
import Derived.Test.YtedpnjbbcfiheaaGreatDoorX7
set_option linter.unusedVariables false
namespace Go.Proofs.YtedpnjbbcfiheaaGreatDoor
open Go.RowKit Go.Sc
def smS (css : List (List Int)) (z : Nat) (st : Bool × List Int) (mask : Nat) : Bool × List Int :=
  if covB css (bitsL mask z) = true ∧ (st.1 = false ∨ (bitsL mask z).length < st.2.length ∨ ((bitsL mask z).length = st.2.length ∧ cmpL (bitsL mask z) st.2 < 0)) then (true, bitsL mask z) else st
def smR (css : List (List Int)) (z : Nat) (M : Nat) : Bool × List Int := (List.range M).foldl (smS css z) (false, [])
theorem smR_succ (css : List (List Int)) (z M : Nat) : smR css z (M + 1) = smS css z (smR css z M) M := by
  unfold smR
  rw [List.range_succ, List.foldl_append]; rfl
theorem smR_len (css : List (List Int)) (z M : Nat) : (smR css z M).2.length ≤ z := by
  induction M with
  | zero => simp [smR]
  | succ M ih =>
    rw [smR_succ, smS]
    split
    · exact bitsL_len _ _
    · exact ih
theorem shr_and_i (q i : Nat) (h : q < 9223372036854775808) : bits .and .i64 ((q : Int) / 2 ^ i) 1 = if q.testBit i then 1 else 0 := by
  have hq : q / 2 ^ i < 9223372036854775808 := Nat.lt_of_le_of_lt (Nat.div_le_self _ _) h
  have e := (bits_nat .i64 63 (by decide) (fun n h0 h1 => by rw [IntKind.wrap_i64]; simp at h1; omega) (q / 2 ^ i) 1 (by simpa using hq) (by decide)).1
  have e2 : ((q : Int) / 2 ^ i) = ((q / 2 ^ i : Nat) : Int) := by rw [Int.natCast_ediv]; simp
  rw [e2, show (1 : Int) = ((1 : Nat) : Int) from rfl, e]
  rw [Nat.testBit_eq_decide_div_mod_eq, show (1 : Nat) = 2 ^ 1 - 1 from rfl, Nat.and_two_pow_sub_one_eq_mod]
  have := Nat.mod_lt (q / 2 ^ i) (show 0 < 2 by decide)
  by_cases h1 : q / 2 ^ i % 2 = 1
  · simp [h1]
  · have h0 : q / 2 ^ i % 2 = 0 := by omega
    simp [h0]
theorem wrap_pow (z : Nat) (h : z ≤ 14) : wrap64 ((2 : Int) ^ z) = ((2 ^ z : Nat) : Int) := by
  have hp0 : 2 ^ z ≤ 2 ^ 14 := Nat.pow_le_pow_right (by decide) h
  have e : (2 : Int) ^ z = ((2 ^ z : Nat) : Int) := by simp
  rw [e]
  generalize 2 ^ z = m at *
  unfold wrap64
  omega
set_option maxRecDepth 100000 in
set_option maxHeartbeats 2000000 in
theorem SmallestOf_big (tv fv : Value) (n : Nat) (ss : List ByteArray) (fs : List (Int × List Int)) (z : Nat) (w : World) (hr : Rd w 1 tv n (ss.map .string)) (hf : RdF w fv fs) (hz : ∀ s ∈ ss, s.size = z) (hn1 : 1 ≤ n) (hz64 : z ≤ 64) (hbig : 14 < z) :
    Calls Tryz.prog 16 #[tv, fv] w fun e w' => e = .returned (.tuple #[.slice none 0 0, .int .i64 2]) ∧ w = w' := by
  have hl : ss.length = n := by have := hr.len; simpa using this
  obtain ⟨A2, c2, rfl, _, _, _⟩ := hf
  obtain ⟨A, c, rfl, h1, h2, h3, h4⟩ := hr
  obtain ⟨b, off, rfl, hc⟩ := h4 (by omega)
  obtain ⟨s0, hs0, hsz0⟩ : ∃ s0, ss[0]? = some s0 ∧ s0.size = z := ⟨ss[0]'(by omega), List.getElem?_eq_getElem _, hz _ (List.getElem_mem _)⟩
  have hc0 : w.cell? ⟨b, off, none⟩ = some (.string s0) := by have := hc 0 (.string s0) (by simp [hs0]); simpa using this
  clear h3 h4 hz hs0 hl hc
  go_enter Tryz.func16, Tryz.ntmps16
  go_wp2_with fail
  go_ret2
  exact ⟨rfl, rfl⟩
set_option maxRecDepth 100000 in
set_option maxHeartbeats 2000000 in
theorem SmallestOf_any (tv fv : Value) (n : Nat) (ss : List ByteArray) (fs : List (Int × List Int)) (z : Nat) (w : World) (hr : Rd w 1 tv n (ss.map .string)) (hf : RdF w fv fs) (hok : okTest ss) (hz : ∀ s ∈ ss, s.size = z) (hn : n ≤ 100) (hn1 : 1 ≤ n) (hz14 : z ≤ 14)
    (hfo : ∀ f ∈ fs, FOk n f.1 f.2) (hfl : fs.length ≤ 20000) :
    Calls Tryz.prog 16 #[tv, fv] w fun e w' => ∃ v', e = .returned (.tuple #[v', .int .i64 0]) ∧ w'.ownsRow w.heap.size 3 1 v' (smR (catA ss fs) z (2 ^ z)).2.length ((smR (catA ss fs) z (2 ^ z)).2.map (.int .i64)) ∧ Below w.heap.size w w' := by
  have hl : ss.length = n := by have := hr.len; simpa using this
  have hcl : ∀ c ∈ catA ss fs, c.length ≤ 1000000 := by
    intro c hc
    obtain ⟨f, _, rfl⟩ := List.mem_map.1 hc
    have h1 := catL_len ss f.1 f.2
    have h2 : (ss.headD ByteArray.empty).size ≤ 64 := head_ok (by omega) hok
    omega
  have HCN := Lib.hid hcl
  have HCL : Hid ((catA ss fs).length ≤ 20000) := by show _ ≤ _; simp [catA]; exact hfl
  have HAC := Lib.hid (allCaught_any tv fv n ss fs z w hr hf hok hz hn hn1 (by omega) hfo hfl)
  obtain ⟨A2, c2, rfl, _, _, _⟩ := hf
  obtain ⟨A, c, rfl, h1, h2, h3, h4⟩ := hr
  obtain ⟨b, off, rfl, hc⟩ := h4 (by omega)
  obtain ⟨s0, hs0, hsz0⟩ : ∃ s0, ss[0]? = some s0 ∧ s0.size = z := ⟨ss[0]'(by omega), List.getElem?_eq_getElem _, hz _ (List.getElem_mem _)⟩
  have hc0 : w.cell? ⟨b, off, none⟩ = some (.string s0) := by have := hc 0 (.string s0) (by simp [hs0]); simpa using this
  have hp0 : 2 ^ z ≤ 2 ^ 14 := Nat.pow_le_pow_right (by decide) hz14
  clear h3 h4 hok hz hfo hs0 hl hc hcl
  go_enter Tryz.func16, Tryz.ntmps16
  go_wp2_with fail
  refine HAC.out.mono ?_
  rintro e w1 ⟨v1, rfl, hownA, hb1⟩
  have HRL := Lib.hid hownA.rdl
  obtain ⟨A5, c5, rfl, _, _, _⟩ := hownA.rdl
  generalize hcss : catA ss fs = css at *
  have HRX := Lib.hid hcss
  clear hownA hcss
  obtain rfl : s0.size = z := hsz0
  have HW := Lib.hid (wrap_pow s0.size hz14)
  go_wp2_with fail
  rw [HW.out]
  generalize hM : 2 ^ s0.size = M at *
  have HM := Lib.hid hM
  clear hM
  go_loopw [8, 9, 24] (fun bv fv i wr => ∃ (j : Nat) (fd : Bool) (best : List Int), j ≤ M ∧ i = .int .i64 j ∧ fv = .bool fd ∧ wr.ownsRow w1.heap.size 3 1 bv best.length (best.map (.int .i64)) ∧ Hid (smR css s0.size j = (fd, best)) ∧ best.length ≤ s0.size ∧ Below w1.heap.size w1 wr) (fun _ _ i _ => M - (intOf i).toNat)
  case atStart => exact ⟨0, false, [], by omega, rfl, rfl, World.ownsRow_nil _ _ _ _, rfl, by simp, Below.refl _ _⟩
  case round =>
    obtain ⟨j, fd, best, hj, rfl, rfl, hown, HQ, hbz, hbel⟩ := hrel
    by_cases hlt : j < M
    · have hsz := hbel.size
      obtain ⟨w5, hw5⟩ : ∃ w5, w5 = wr := ⟨_, rfl⟩
      rw [← hw5] at hown hbel hsz ⊢
      clear hw5
      go_wp2_with fail
      go_loopw [11, 28] (fun v i wr => ∃ k : Nat, k ≤ s0.size ∧ i = .int .i64 k ∧ wr.ownsRow w5.heap.size 3 1 v (bitsL j k).length ((bitsL j k).map (.int .i64)) ∧ Below w5.heap.size w5 wr) (fun _ i _ => s0.size - (intOf i).toNat)
      case atStart => exact ⟨0, by omega, rfl, World.ownsRow_nil _ _ _ _, Below.refl _ _⟩
      case round =>
        obtain ⟨k, hk, rfl, hownv, hbel2⟩ := hrel
        have hsz2 := hbel2.size
        have hlen := bitsL_len j k
        by_cases hltk : k < s0.size
        · have HB := Lib.hid (shr_and_i j k (by omega))
          cases ht : j.testBit k
          · have HB2 : Hid (bitsL j (k + 1) = bitsL j k) := by show _ = _; rw [bitsL_succ, ht]; simp
            have hbb : (bits .and .i64 ((j : Int) / 2 ^ k) 1 == 1) = false := by rw [HB.out, ht]; rfl
            go_wp2_with fail
            go_roundw
            case rel => exact ⟨k + 1, by omega, by go_num, by rw [HB2.out]; exact hownv, hbel2⟩
            case measure => simp [intOf]; omega
          · have HB2 : Hid (bitsL j (k + 1) = bitsL j k ++ [(k : Int)]) := by show _ = _; rw [bitsL_succ, ht]; simp
            have hbb : (bits .and .i64 ((j : Int) / 2 ^ k) 1 == 1) = true := by rw [HB.out, ht]; rfl
            go_wp2_with (at_builtin; refine app w5.heap.size rfl _ _ 22 3 (.int .i64 0) 1 8 rfl Tryz.underlying22 info3 rfl (by decide) (by decide) _ _ _ hownv _ 1 rfl rfl rfl (by simp [Value.oneCell']) hsz2 (by omega) ?_; intro v1 w1 hown1 hg1 hat)
            go_roundw
            case rel => exact ⟨k + 1, by omega, by go_num, by rw [HB2.out]; simpa using hown1, hbel2.grown hg1 hsz2 (fun j hj => (own_lt hownv hj).1)⟩
            case measure => simp [intOf]; omega
        · obtain rfl : k = s0.size := by omega
          have hbel3 := hbel.trans (hbel2.mono hsz)
          have hownB := own_below hown hbel2
          have hRV := Rd.of_own hownv
          have hRB := Rd.of_own hownB
          have hownV := own_mono hownv hsz
          have HCV := Lib.hid (covers_any _ _ css (bitsL j s0.size) wr (HRL.out.below hbel3) (by have := HCL.out; omega) HCN.out hRV (by omega))
          have HS : Hid (smR css s0.size (j + 1) = if covB css (bitsL j s0.size) = true ∧ (fd = false ∨ (bitsL j s0.size).length < best.length ∨ ((bitsL j s0.size).length = best.length ∧ cmpL (bitsL j s0.size) best < 0)) then (true, bitsL j s0.size) else (fd, best)) := by
            show _ = _
            rw [smR_succ, HQ.out]; rfl
          have HV := Lib.hid hRV
          have HB := Lib.hid hRB
          obtain ⟨A7, c7, rfl, _, _, _, _⟩ := hRV
          obtain ⟨A8, c8, rfl, _, _, _, _⟩ := hRB
          clear hown hownv
          have hsr := hbel3.size
          generalize bitsL j s0.size = v at *
          cases hcov : covB css v
          · have HS2 : Hid (smR css s0.size (j + 1) = (fd, best)) := by show _ = _; rw [HS.out, if_neg (by rw [hcov]; simp)]
            go_wp2_with (go_at_call 71; refine HCV.out.mono ?_; rintro e w6 ⟨rfl, hb6⟩; rw [hcov])
            go_roundw
            case rel => exact ⟨j + 1, fd, best, by omega, by go_num, rfl, own_below hownB hb6, HS2, hbz, hbel3.trans (hb6.mono hsr)⟩
            case measure => simp [intOf]; omega
          · cases fd
            · have HS2 : Hid (smR css s0.size (j + 1) = (true, v)) := by show _ = _; rw [HS.out, if_pos (by rw [hcov]; simp)]
              go_wp2_with (go_at_call 71; refine HCV.out.mono ?_; rintro e w6 ⟨rfl, hb6⟩; rw [hcov])
              go_roundw
              case rel => exact ⟨j + 1, true, v, by omega, by go_num, rfl, own_below hownV hb6, HS2, hlen, hbel3.trans (hb6.mono hsr)⟩
              case measure => simp [intOf]; omega
            · rcases Nat.lt_trichotomy v.length best.length with hl1 | hl1 | hl1
              · have HS2 : Hid (smR css s0.size (j + 1) = (true, v)) := by show _ = _; rw [HS.out, if_pos (by rw [hcov]; exact ⟨rfl, .inr (.inl hl1)⟩)]
                go_wp2_with (go_at_call 71; refine HCV.out.mono ?_; rintro e w6 ⟨rfl, hb6⟩; rw [hcov])
                go_roundw
                case rel => exact ⟨j + 1, true, v, by omega, by go_num, rfl, own_below hownV hb6, HS2, hlen, hbel3.trans (hb6.mono hsr)⟩
                case measure => simp [intOf]; omega
              · have eb : ((v.length : Int) == (best.length : Int)) = true := beq_iff_eq.2 (by omega)
                have HL1 := Lib.hid hl1
                have hnl : best.length ≤ v.length := by omega
                clear hl1
                by_cases hcmp : cmpL v best < 0
                · have HS2 : Hid (smR css s0.size (j + 1) = (true, v)) := by show _ = _; rw [HS.out, if_pos (by rw [hcov]; exact ⟨rfl, .inr (.inr ⟨HL1.out, hcmp⟩)⟩)]
                  go_wp2_with (first
                    | (go_at_call 71; refine HCV.out.mono ?_; rintro e w6 ⟨rfl, hb6⟩; rw [hcov])
                    | (go_at_call 72; refine (Compare_any _ _ _ _ v best _ (HV.out.below hb6) (HB.out.below hb6) (by omega) (by omega)).mono ?_; rintro e w7 ⟨rfl, rfl⟩))
                  go_roundw
                  case rel => exact ⟨j + 1, true, v, by omega, by go_num, rfl, own_below hownV hb6, HS2, hlen, hbel3.trans (hb6.mono hsr)⟩
                  case measure => simp [intOf]; omega
                · have HS2 : Hid (smR css s0.size (j + 1) = (true, best)) := by
                    show _ = _
                    rw [HS.out, if_neg]
                    rintro ⟨_, h | h | h⟩
                    · cases h
                    · omega
                    · exact hcmp h.2
                  go_wp2_with (first
                    | (go_at_call 71; refine HCV.out.mono ?_; rintro e w6 ⟨rfl, hb6⟩; rw [hcov])
                    | (go_at_call 72; refine (Compare_any _ _ _ _ v best _ (HV.out.below hb6) (HB.out.below hb6) (by omega) (by omega)).mono ?_; rintro e w7 ⟨rfl, rfl⟩))
                  go_roundw
                  case rel => exact ⟨j + 1, true, best, by omega, by go_num, rfl, own_below hownB hb6, HS2, hbz, hbel3.trans (hb6.mono hsr)⟩
                  case measure => simp [intOf]; omega
              · have eb : ((v.length : Int) == (best.length : Int)) = false := beq_eq_false_iff_ne.2 (by omega)
                have HS2 : Hid (smR css s0.size (j + 1) = (true, best)) := by
                  show _ = _
                  rw [HS.out, if_neg]
                  rintro ⟨_, h | h | h⟩
                  · cases h
                  · omega
                  · omega
                go_wp2_with (go_at_call 71; refine HCV.out.mono ?_; rintro e w6 ⟨rfl, hb6⟩; rw [hcov])
                go_roundw
                case rel => exact ⟨j + 1, true, best, by omega, by go_num, rfl, own_below hownB hb6, HS2, hbz, hbel3.trans (hb6.mono hsr)⟩
                case measure => simp [intOf]; omega
    · obtain rfl : j = M := by omega
      go_wp2_with fail
      go_ret2
      exact ⟨_, rfl, by rw [HRX.out, HM.out, HQ.out]; exact own_mono hown hb1.size, hb1.trans (hbel.mono hb1.size)⟩
end Go.Proofs.YtedpnjbbcfiheaaGreatDoor

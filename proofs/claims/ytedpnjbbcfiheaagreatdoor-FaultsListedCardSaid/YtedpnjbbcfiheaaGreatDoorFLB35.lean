import Derived.Test.YtedpnjbbcfiheaaGreatDoorFLB34
set_option linter.unusedSimpArgs false
set_option linter.unusedSectionVars false
set_option linter.unusedVariables false
/- Walk of AllFault. -/
set_option linter.unusedVariables false
namespace Go.Proofs.YtedpnjbbcfiheaaGreatDoor
open Go.RowKit Go.Sc
set_option maxRecDepth 100000 in
set_option maxHeartbeats 2000000 in
theorem AllFault_any (nets : Int) (v : Value) (n : Nat) (ks : List Int) (w : World) (hr : Rd w 1 v n (ks.map (.int .i64))) :
    Calls Tryz.prog 30 #[.int .i64 nets, v] w fun e w' => e = .returned (.int .i64 (allErr nets ks)) ∧ w = w' := by
  have hl : ks.length = n := by have := hr.len; simpa using this
  obtain ⟨A, c, rfl, h1, h2, h3, h4⟩ := hr
  have H4 := Lib.hid h4
  have HA : Hid (allErr nets ks = if kfault nets ks = 0 then (if 20000 < cntKs ks nets.toNat then 2 else 0) else kfault nets ks) := rfl
  clear h3 h4
  cases ho : outB nets 1 100
  · obtain ⟨o1, o2⟩ := outB_false.1 ho
    by_cases h6 : 6 < n
    · have HK : Hid (allErr nets ks = 2) := by show _ = _; rw [HA.out, kfault, ho, hl, if_pos h6]; rfl
      have h6i : decide ((6 : Int) < (n : Int)) = true := by simp; omega
      clear hl
      go_enter Tryz.func30, Tryz.ntmps30
      go_wp2_with (go_at_call 79; refine (in_any _ _ _ _).mono ?_; rintro e w' ⟨rfl, rfl⟩; rw [ho])
      go_ret
      exact ⟨ret_int HK.out.symm, rfl⟩
    · have HK : Hid (kfault nets ks = kfL (prevK ks 0) (ks.drop 0)) := by show _ = _; rw [kfault, ho, hl, if_neg h6]; rfl
      have HL := Lib.hid hl
      have h6i : decide ((6 : Int) < (n : Int)) = false := by simp; omega
      clear hl
      go_enter Tryz.func30, Tryz.ntmps30
      go_wp2_with (go_at_call 79; refine (in_any _ _ _ _).mono ?_; rintro e w' ⟨rfl, rfl⟩; rw [ho])
      go_loopw [20] (fun i wr => ∃ j : Nat, j ≤ n ∧ i = .int .i64 j ∧ Hid (kfault nets ks = kfL (prevK ks j) (ks.drop j)) ∧ w = wr) (fun i _ => n - (intOf i).toNat)
      case atStart => exact ⟨0, by omega, rfl, HK, rfl⟩
      case round =>
        obtain ⟨j, hj, rfl, HQ, rfl⟩ := hrel
        by_cases hlt : j < n
        · obtain ⟨b, off, rfl, hc⟩ := H4.out (by omega)
          have hjl : j < ks.length := by rw [HL.out]; exact hlt
          have HS := Lib.hid (kfL_at ks j hjl)
          by_cases h0 : 0 < j
          · have c1 := hc j _ (getD_map_int .i64 ks j hjl)
            have c2 : w.cell? ⟨b, off + (j - 1), none⟩ = some (.int .i64 (ks[j-1]?.getD 0)) := hc (j - 1) _ (getD_map_int .i64 ks (j - 1) (by omega))
            clear hc hjl
            generalize ks[j]?.getD 0 = x at *
            generalize ks[j-1]?.getD 0 = y at *
            cases ho2 : outB x 1 6
            · by_cases hle : x ≤ y
              · have HF : Hid (allErr nets ks = 7) := by
                  have hk : kfault nets ks = 7 := by rw [HQ.out, HS.out, ho2, if_neg (by decide), if_pos ⟨h0, hle⟩]
                  show _ = _
                  rw [HA.out, hk]; rfl
                go_wp2_with (go_at_call 79; refine (in_any _ _ _ _).mono ?_; rintro e w' ⟨rfl, rfl⟩; rw [ho2])
                go_ret
                exact ⟨ret_int HF.out.symm, rfl⟩
              · have HF : Hid (kfault nets ks = kfL (prevK ks (j + 1)) (ks.drop (j + 1))) := by show _ = _; rw [HQ.out, HS.out, ho2, if_neg (by decide), if_neg (fun h => hle h.2)]
                go_wp2_with (go_at_call 79; refine (in_any _ _ _ _).mono ?_; rintro e w' ⟨rfl, rfl⟩; rw [ho2])
                go_roundw
                case rel => exact ⟨j + 1, by omega, by go_num, HF, by first | trivial | rfl⟩
                case measure => simp [intOf]; omega
            · have HF : Hid (allErr nets ks = 4) := by show _ = _; rw [HA.out, HQ.out, HS.out, ho2]; rfl
              go_wp2_with (go_at_call 79; refine (in_any _ _ _ _).mono ?_; rintro e w' ⟨rfl, rfl⟩; rw [ho2])
              go_ret
              exact ⟨ret_int HF.out.symm, rfl⟩
          · obtain rfl : j = 0 := by omega
            have c1 : w.cell? ⟨b, off, none⟩ = some (.int .i64 (ks[0]?.getD 0)) := hc 0 _ (getD_map_int .i64 ks 0 hjl)
            clear hc hjl
            generalize ks[0]?.getD 0 = x at *
            cases ho2 : outB x 1 6
            · have HF : Hid (kfault nets ks = kfL (prevK ks (0 + 1)) (ks.drop (0 + 1))) := by show _ = _; rw [HQ.out, HS.out, ho2, if_neg (by decide), if_neg (fun h => h0 h.1)]
              go_wp2_with (go_at_call 79; refine (in_any _ _ _ _).mono ?_; rintro e w' ⟨rfl, rfl⟩; rw [ho2])
              go_roundw
              case rel => exact ⟨0 + 1, by omega, by go_num, HF, by first | trivial | rfl⟩
              case measure => simp [intOf]; omega
            · have HF : Hid (allErr nets ks = 4) := by show _ = _; rw [HA.out, HQ.out, HS.out, ho2]; rfl
              go_wp2_with (go_at_call 79; refine (in_any _ _ _ _).mono ?_; rintro e w' ⟨rfl, rfl⟩; rw [ho2])
              go_ret
              exact ⟨ret_int HF.out.symm, rfl⟩
        · obtain rfl : j = n := by omega
          have HK0 : Hid (kfault nets ks = 0) := by show _ = _; rw [HQ.out, List.drop_eq_nil_of_le (by rw [HL.out]; exact Nat.le_refl _)]; rfl
          obtain ⟨N, rfl⟩ := Int.eq_ofNat_of_zero_le (show 0 ≤ nets by omega)
          have hN : N ≤ 100 := by omega
          have hN1 : 1 ≤ N := by omega
          go_wp2_with fail
          go_loopw [7, 42] (fun m i wr => ∃ q : Nat, q ≤ j ∧ i = .int .i64 q ∧ m = .int .i64 (cntKs (ks.take q) N : Nat) ∧ w = wr) (fun _ i _ => j - (intOf i).toNat)
          case atStart => exact ⟨0, by omega, rfl, rfl, rfl⟩
          case round =>
            obtain ⟨q, hq, rfl, rfl, rfl⟩ := hrel
            by_cases hltq : q < j
            · obtain ⟨b, off, rfl, hc⟩ := H4.out (by omega)
              have hql : q < ks.length := by rw [HL.out]; exact hltq
              have c1 := hc q _ (getD_map_int .i64 ks q hql)
              have HS := Lib.hid (cntKs_take ks N q hql)
              have hle := cntKs_le ks N q hN
              have hm0 : N * (N - 1) ≤ 100 * 100 := Nat.mul_le_mul hN (by omega)
              have HM : Hid ((N : Int) * ((N : Int) - 1) = ((N * (N - 1) : Nat) : Int)) := by
                show _ = _
                rw [Int.natCast_mul, Int.natCast_sub hN1]; rfl
              have HC : Hid (cntK (ks[q]?.getD 0) N = if ks[q]?.getD 0 = 5 then N * (N - 1) else if outB (ks[q]?.getD 0) 3 5 = false then N * (N - 1) / 2 else N) := rfl
              clear hc hql
              generalize ks[q]?.getD 0 = x at *
              generalize cntKs (ks.take q) N = cq at *
              have hmm := HM.out
              generalize N * (N - 1) = NN at *
              by_cases h5 : x = 5
              · have d5 : (x == 5) = true := beq_iff_eq.2 h5
                have HC2 : Hid (cntKs (ks.take (q + 1)) N = cq + NN) := by show _ = _; rw [HS.out, HC.out, if_pos h5]
                clear h5
                go_wp2_with fail
                go_roundw
                case rel => exact ⟨q + 1, by omega, by go_num, by rw [HC2.out]; go_num, by first | trivial | rfl⟩
                case measure => simp [intOf]; omega
              · have d5 : (x == 5) = false := beq_eq_false_iff_ne.2 h5
                cases ho3 : outB x 3 5
                · have HC2 : Hid (cntKs (ks.take (q + 1)) N = cq + NN / 2) := by show _ = _; rw [HS.out, HC.out, if_neg h5, if_pos ho3]
                  clear h5
                  go_wp2_with (go_at_call 80; refine (short_any _ _).mono ?_; rintro e w' ⟨rfl, rfl⟩; rw [ho3])
                  go_roundw
                  case rel => exact ⟨q + 1, by omega, by go_num, by rw [HC2.out]; go_num, by first | trivial | rfl⟩
                  case measure => simp [intOf]; omega
                · have HC2 : Hid (cntKs (ks.take (q + 1)) N = cq + N) := by show _ = _; rw [HS.out, HC.out, if_neg h5, if_neg (by rw [ho3]; decide)]
                  clear h5
                  go_wp2_with (go_at_call 80; refine (short_any _ _).mono ?_; rintro e w' ⟨rfl, rfl⟩; rw [ho3])
                  go_roundw
                  case rel => exact ⟨q + 1, by omega, by go_num, by rw [HC2.out]; go_num, by first | trivial | rfl⟩
                  case measure => simp [intOf]; omega
            · obtain rfl : q = j := by omega
              have HT : Hid (ks.take q = ks) := List.take_of_length_le (by rw [HL.out]; exact Nat.le_refl _)
              rw [HT.out]
              have HA2 : Hid (allErr (N : Int) ks = if 20000 < cntKs ks N then 2 else 0) := by show _ = _; rw [HA.out, if_pos HK0.out, Int.toNat_natCast]
              generalize cntKs ks N = t at *
              by_cases ht : 20000 < t
              · have dt : decide ((20000 : Int) < (t : Int)) = true := by simp; omega
                have HF : Hid (allErr (N : Int) ks = 2) := by show _ = _; rw [HA2.out, if_pos ht]
                go_wp2_with fail
                go_ret
                exact ⟨ret_int HF.out.symm, rfl⟩
              · have dt : decide ((20000 : Int) < (t : Int)) = false := by simp; omega
                have HF : Hid (allErr (N : Int) ks = 0) := by show _ = _; rw [HA2.out, if_neg ht]
                go_wp2_with fail
                go_ret
                exact ⟨ret_int HF.out.symm, rfl⟩
  · have HK : Hid (allErr nets ks = 1) := by show _ = _; rw [HA.out, kfault, ho]; rfl
    clear hl
    go_enter Tryz.func30, Tryz.ntmps30
    go_wp2_with (go_at_call 79; refine (in_any _ _ _ _).mono ?_; rintro e w' ⟨rfl, rfl⟩; rw [ho])
    go_ret
    exact ⟨ret_int HK.out.symm, rfl⟩
end Go.Proofs.YtedpnjbbcfiheaaGreatDoor

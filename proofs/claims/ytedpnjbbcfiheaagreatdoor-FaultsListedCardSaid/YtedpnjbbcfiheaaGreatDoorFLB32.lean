import Derived.Test.YtedpnjbbcfiheaaGreatDoorFLB26
import Derived.Test.YtedpnjbbcfiheaaGreatDoorFLB04
set_option linter.unusedSimpArgs false
set_option linter.unusedSectionVars false
set_option linter.unusedVariables false
/- Walks of kindsFault, All, AllOf. -/
set_option linter.unusedVariables false
namespace Go.Proofs.YtedpnjbbcfiheaaGreatDoor
open Go.RowKit Go.Sc
theorem own_lit {w : World} {base : Nat} (vs : List Value) (t : TypeId) (n : Nat) (h : vs.length = n) (hn : n ≤ maxLen) (hb : base ≤ w.heap.size) : (w.alloc (.cells vs.toArray t)).ownsRow base t 1 (.slice (some ⟨w.heap.size, 0, none⟩) n n) n vs :=
  ⟨by omega, .inr ⟨w.heap.size, n, vs.toArray, rfl, hb, heap_alloc_new w _, Nat.le_refl _, hn, by simp [h], by subst h; simp⟩⟩
theorem OwnF.alloc {w : World} {base : Nat} {v : Value} {fs : List (Int × List Int)} (h : OwnF w base v fs) (o : Obj) : OwnF (w.alloc o) base v fs := h.grown (World.grownBy_alloc w o none) (fun k hk => by cases hk)
def condB (k : Int) (a b : Nat) : Bool := decide (a < b) || (decide (b < a) && decide (k = 5))
def oneA (k : Int) (nets a m : Nat) : List (Int × List Int) := ((List.range m).filter (condB k a)).map fun (b : Nat) => (k, [(a : Int), (b : Int)])
def oneK (k : Int) (nets : Nat) (a : Nat) : List (Int × List Int) := if outB k 3 5 = true then [(k, [(a : Int)])] else oneA k nets a nets
def allK (k : Int) (nets m : Nat) : List (Int × List Int) := (List.range m).flatMap (oneK k nets)
def allF (ks : List Int) (nets : Nat) : List (Int × List Int) := ks.flatMap fun k => allK k nets nets
theorem oneA_succ (k : Int) (nets a m : Nat) : oneA k nets a (m + 1) = oneA k nets a m ++ (if condB k a m = true then [(k, [(a : Int), (m : Int)])] else []) := by
  unfold oneA
  rw [List.range_succ, List.filter_append, List.map_append]
  cases h : condB k a m <;> simp [h]
theorem oneA_len (k : Int) (nets a m : Nat) : (oneA k nets a m).length ≤ m := by
  unfold oneA
  rw [List.length_map]
  exact Nat.le_trans (List.length_filter_le _ _) (by simp)
theorem allK_succ (k : Int) (nets m : Nat) : allK k nets (m + 1) = allK k nets m ++ oneK k nets m := by
  unfold allK
  rw [List.range_succ, List.flatMap_append]
  simp
theorem oneK_len (k : Int) (nets a : Nat) (h : nets ≤ 100) : (oneK k nets a).length ≤ 100 := by
  unfold oneK
  split
  · simp
  · have := oneA_len k nets a nets; omega
theorem allK_len (k : Int) (nets m : Nat) (h : nets ≤ 100) : (allK k nets m).length ≤ m * 100 := by
  induction m with
  | zero => simp [allK]
  | succ m ih => rw [allK_succ, List.length_append]; have := oneK_len k nets m h; omega
theorem allF_take (ks : List Int) (nets j : Nat) (k : Int) (h : ks[j]? = some k) : allF (ks.take (j + 1)) nets = allF (ks.take j) nets ++ allK k nets nets := by
  obtain ⟨hk, rfl⟩ := List.getElem?_eq_some_iff.1 h
  unfold allF
  rw [List.take_succ_eq_append_getElem hk, List.flatMap_append]
  simp only [List.flatMap_cons, List.flatMap_nil, List.append_nil]
theorem allF_len (ks : List Int) (nets j : Nat) (h : nets ≤ 100) : (allF (ks.take j) nets).length ≤ j * 10000 := by
  induction j with
  | zero => simp [allF]
  | succ j ih =>
    rcases Nat.lt_or_ge j ks.length with hj | hj
    · rw [allF_take ks nets j ks[j] (List.getElem?_eq_getElem hj), List.length_append]
      have := allK_len ks[j] nets nets h
      omega
    · rw [List.take_of_length_le (by omega)]
      rw [List.take_of_length_le hj] at ih
      exact Nat.le_trans ih (Nat.mul_le_mul_right _ (Nat.le_succ _))
/-! ### kindsFault -/
def badP : Option Int → Int → Bool
  | some p, k => decide (k ≤ p)
  | none, _ => false
def kfL : Option Int → List Int → Int
  | _, [] => 0
  | prev, k :: r => if outB k 1 6 = true then 4 else if badP prev k = true then 7 else kfL (some k) r
def kfault (nets : Int) (ks : List Int) : Int := if outB nets 1 100 = true then 1 else if 6 < ks.length then 2 else kfL none ks
def prevK (ks : List Int) (j : Nat) : Option Int := if j = 0 then none else some (ks[j-1]?.getD 0)
theorem kfL_at (ks : List Int) (j : Nat) (h : j < ks.length) : kfL (prevK ks j) (ks.drop j) = if outB (ks[j]?.getD 0) 1 6 = true then 4 else if (0 < j ∧ ks[j]?.getD 0 ≤ ks[j-1]?.getD 0) then 7 else kfL (prevK ks (j + 1)) (ks.drop (j + 1)) := by
  rw [List.drop_eq_getElem_cons h, List.getElem?_eq_getElem h, kfL]
  have e : prevK ks (j + 1) = some ks[j] := by unfold prevK; rw [if_neg (by omega), Nat.add_sub_cancel, List.getElem?_eq_getElem h]; rfl
  rw [e]
  simp only [Option.getD_some]
  congr 1
  unfold prevK
  by_cases h0 : j = 0
  · subst h0; simp [badP]
  · rw [if_neg h0]
    have : 0 < j := by omega
    simp [this, badP]
set_option maxRecDepth 100000 in
set_option maxHeartbeats 1000000 in
theorem kindsFault_any (nets : Int) (v : Value) (n : Nat) (ks : List Int) (w : World) (hr : Rd w 1 v n (ks.map (.int .i64))) :
    Calls Tryz.prog 75 #[.int .i64 nets, v] w fun e w' => e = .returned (.int .i64 (kfault nets ks)) ∧ w = w' := by
  have hl : ks.length = n := by have := hr.len; simpa using this
  obtain ⟨A, c, rfl, h1, h2, h3, h4⟩ := hr
  have H4 := Lib.hid h4
  clear h3 h4
  cases ho : outB nets 1 100
  · by_cases h6 : 6 < n
    · have HK : Hid (kfault nets ks = 2) := by show _ = _; rw [kfault, ho, hl, if_pos h6]; rfl
      have h6i : decide ((6 : Int) < (n : Int)) = true := by simp; omega
      clear hl
      go_enter Tryz.func75, Tryz.ntmps75
      go_wp2_with (go_at_call 124; refine (Out_any _ _ _ _).mono ?_; rintro e w' ⟨rfl, rfl⟩; rw [ho])
      go_ret
      exact ⟨ret_int HK.out.symm, rfl⟩
    · have HK : Hid (kfault nets ks = kfL (prevK ks 0) (ks.drop 0)) := by show _ = _; rw [kfault, ho, hl, if_neg h6]; rfl
      have HL := Lib.hid hl
      have h6i : decide ((6 : Int) < (n : Int)) = false := by simp; omega
      clear hl
      go_enter Tryz.func75, Tryz.ntmps75
      go_wp2_with (go_at_call 124; refine (Out_any _ _ _ _).mono ?_; rintro e w' ⟨rfl, rfl⟩; rw [ho])
      go_loopw [16] (fun i wr => ∃ j : Nat, j ≤ n ∧ i = .int .i64 j ∧ Hid (kfault nets ks = kfL (prevK ks j) (ks.drop j)) ∧ w = wr) (fun i _ => n - (intOf i).toNat)
      case atStart => exact ⟨0, by omega, rfl, HK, rfl⟩
      case round =>
        obtain ⟨j, hj, rfl, HQ, rfl⟩ := hrel
        by_cases hlt : j < n
        · obtain ⟨b, off, rfl, hc⟩ := H4.out (by omega)
          have hjl : j < ks.length := by rw [HL.out]; exact hlt
          have HS := Lib.hid (kfL_at ks j hjl)
          by_cases h0 : 0 < j
          · have c1 := hc j _ (getD_map_int .i64 ks j hjl)
            have c2 : w.cell? ⟨b, off + (j - 1), none⟩ = some (.int .i64 (ks[j-1]?.getD 0)) := hc (j - 1) _ (getD_map_int .i64 ks (j - 1) (by omega))
            clear hc hjl
            generalize ks[j]?.getD 0 = x at *
            generalize ks[j-1]?.getD 0 = y at *
            cases ho2 : outB x 1 6
            · by_cases hle : x ≤ y
              · have HF : Hid (kfault nets ks = 7) := by show _ = _; rw [HQ.out, HS.out, ho2, if_neg (by decide), if_pos ⟨h0, hle⟩]
                go_wp2_with (go_at_call 124; refine (Out_any _ _ _ _).mono ?_; rintro e w' ⟨rfl, rfl⟩; rw [ho2])
                go_ret
                exact ⟨ret_int HF.out.symm, rfl⟩
              · have HF : Hid (kfault nets ks = kfL (prevK ks (j + 1)) (ks.drop (j + 1))) := by show _ = _; rw [HQ.out, HS.out, ho2, if_neg (by decide), if_neg (fun h => hle h.2)]
                go_wp2_with (go_at_call 124; refine (Out_any _ _ _ _).mono ?_; rintro e w' ⟨rfl, rfl⟩; rw [ho2])
                go_roundw
                case rel => exact ⟨j + 1, by omega, by go_num, HF, by first | trivial | rfl⟩
                case measure => simp [intOf]; omega
            · have HF : Hid (kfault nets ks = 4) := by show _ = _; rw [HQ.out, HS.out, ho2]; rfl
              go_wp2_with (go_at_call 124; refine (Out_any _ _ _ _).mono ?_; rintro e w' ⟨rfl, rfl⟩; rw [ho2])
              go_ret
              exact ⟨ret_int HF.out.symm, rfl⟩
          · obtain rfl : j = 0 := by omega
            have c1 : w.cell? ⟨b, off, none⟩ = some (.int .i64 (ks[0]?.getD 0)) := hc 0 _ (getD_map_int .i64 ks 0 hjl)
            clear hc hjl
            generalize ks[0]?.getD 0 = x at *
            cases ho2 : outB x 1 6
            · have HF : Hid (kfault nets ks = kfL (prevK ks (0 + 1)) (ks.drop (0 + 1))) := by show _ = _; rw [HQ.out, HS.out, ho2, if_neg (by decide), if_neg (fun h => h0 h.1)]
              go_wp2_with (go_at_call 124; refine (Out_any _ _ _ _).mono ?_; rintro e w' ⟨rfl, rfl⟩; rw [ho2])
              go_roundw
              case rel => exact ⟨0 + 1, by omega, by go_num, HF, by first | trivial | rfl⟩
              case measure => simp [intOf]; omega
            · have HF : Hid (kfault nets ks = 4) := by show _ = _; rw [HQ.out, HS.out, ho2]; rfl
              go_wp2_with (go_at_call 124; refine (Out_any _ _ _ _).mono ?_; rintro e w' ⟨rfl, rfl⟩; rw [ho2])
              go_ret
              exact ⟨ret_int HF.out.symm, rfl⟩
        · obtain rfl : j = n := by omega
          have HF : Hid (kfault nets ks = 0) := by show _ = _; rw [HQ.out, List.drop_eq_nil_of_le (by rw [HL.out]; exact Nat.le_refl _)]; rfl
          go_wp2_with fail
          go_ret
          exact ⟨ret_int HF.out.symm, rfl⟩
  · have HK : Hid (kfault nets ks = 1) := by show _ = _; rw [kfault, ho]; rfl
    clear hl
    go_enter Tryz.func75, Tryz.ntmps75
    go_wp2_with (go_at_call 124; refine (Out_any _ _ _ _).mono ?_; rintro e w' ⟨rfl, rfl⟩; rw [ho])
    go_ret
    exact ⟨ret_int HK.out.symm, rfl⟩
end Go.Proofs.YtedpnjbbcfiheaaGreatDoor

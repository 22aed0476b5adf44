import Derived.Test.YtedpnjbbcfiheaaGreatDoorFLB03
import Derived.Outline
import Derived.RowKit
import Derived.Lib.Hide
import Derived.Shelf.Abstract
set_option linter.unusedSimpArgs false
set_option linter.unusedSectionVars false
set_option linter.unusedVariables false
/- Walk of CheckFault. -/
set_option linter.unusedVariables false
namespace Go.Proofs.YtedpnjbbcfiheaaGreatDoor
open Go.RowKit Go.Sc
def risB (r : List Int) : Bool := (List.range r.length).all fun j => j == 0 || decide (r[j-1]?.getD 0 < r[j]?.getD 0)
def risOf (k : Int) (ns : List Int) : List Int := if k = 5 then ns.drop 1 else ns
def ffault (nets k : Int) (ns : List Int) : Int :=
  if outB nets 1 100 = true then 1 else if outB k 1 6 = true then 4 else if ns.length = 0 then 8 else if 6 < ns.length then 2
  else if (ns.any fun n => outB n 0 (nets - 1)) = true then 1
  else if (!outB k 3 5) ≠ decide (1 < ns.length) then 3
  else if risB (risOf k ns) = false then 7
  else if k = 5 ∧ conB (ns.drop 1) (ns[0]?.getD 0) = true then 6 else 0
def RisV (W : World) (b : Nat) (r : List Int) (v : Value) : Prop := ∃ o c, v = .slice (some ⟨b, o, none⟩) r.length c ∧ r.length ≤ c ∧ c ≤ maxLen ∧ ∀ i, i < r.length → W.cell? ⟨b, o + i, none⟩ = some (.int .i64 (r[i]?.getD 0))
def risTo (r : List Int) (i : Nat) : Prop := ∀ j, j < i → (j == 0 || decide (r[j-1]?.getD 0 < r[j]?.getD 0)) = true
theorem risTo_all {r : List Int} {i : Nat} (h : risTo r i) (hi : r.length ≤ i) : risB r = true := by
  unfold risB
  rw [List.all_eq_true]
  intro j hj
  exact h j (by have := List.mem_range.1 hj; omega)
theorem risTo_no {r : List Int} {i : Nat} (h0 : 1 ≤ i) (hi : i < r.length) (h : ¬ r[i-1]?.getD 0 < r[i]?.getD 0) : risB r = false := by
  unfold risB
  rw [List.all_eq_false]
  refine ⟨i, List.mem_range.2 hi, ?_⟩
  have : (i == 0) = false := beq_eq_false_iff_ne.2 (by omega)
  simp [this]
  omega
theorem risTo_succ {r : List Int} {i : Nat} (h : risTo r i) (hl : r[i-1]?.getD 0 < r[i]?.getD 0) : risTo r (i + 1) := by
  intro j hj
  rcases Nat.lt_or_ge j i with h1 | h1
  · exact h j h1
  · obtain rfl : j = i := by omega
    simp [hl]
set_option maxRecDepth 100000 in
set_option maxHeartbeats 2000000 in
theorem CheckFault_any (nets k : Int) (fv : Value) (ns : List Int) (w : World) (hf : FV w fv k ns) :
    Calls Tryz.prog 143 #[.int .i64 nets, fv] w fun e w' => e = .returned (.int .i64 (ffault nets k ns)) ∧ Below w.heap.size w w' := by
  obtain ⟨nv, rfl, hr⟩ := hf
  obtain ⟨A, c, rfl, h1, h2, h3, h4⟩ := hr
  have hbl : Below w.heap.size w (w.alloc (.cells #[.int .i64 k, .slice A ns.length c] 60)) := (Below.refl _ _).alloc (Nat.le_refl _) _
  have HF : Hid (ffault nets k ns = ffault nets k ns) := rfl
  cases o1 : outB nets 1 100
  case true =>
    have HX : Hid (ffault nets k ns = 1) := by show ffault nets k ns = 1; simp [ffault, o1]
    go_enter Tryz.func143, Tryz.ntmps143
    go_wp2_with (go_at_call 124; refine (Out_any _ _ _ _).mono ?_; rintro e w' ⟨rfl, rfl⟩)
    go_ret
    exact ⟨ret_int HX.out.symm, hbl⟩
  case false =>
  cases o2 : outB k 1 6
  case true =>
    have HX : Hid (ffault nets k ns = 4) := by show ffault nets k ns = 4; simp [ffault, o1, o2]
    go_enter Tryz.func143, Tryz.ntmps143
    go_wp2_with (go_at_call 124; refine (Out_any _ _ _ _).mono ?_; rintro e w' ⟨rfl, rfl⟩)
    go_ret
    exact ⟨ret_int HX.out.symm, hbl⟩
  case false =>
  by_cases hm0 : ns.length = 0
  · have HX : Hid (ffault nets k ns = 8) := by show ffault nets k ns = 8; simp [ffault, o1, o2, hm0]
    clear h3 h4
    generalize ns.length = m at *
    subst hm0
    go_enter Tryz.func143, Tryz.ntmps143
    go_wp2_with (go_at_call 124; refine (Out_any _ _ _ _).mono ?_; rintro e w' ⟨rfl, rfl⟩)
    go_ret
    exact ⟨ret_int HX.out.symm, hbl⟩
  by_cases hm6 : 6 < ns.length
  · have HX : Hid (ffault nets k ns = 2) := by show ffault nets k ns = 2; simp [ffault, o1, o2, hm0, hm6]
    clear h3 h4
    generalize ns.length = m at *
    have e0 : ((m : Int) == 0) = false := by simp; omega
    go_enter Tryz.func143, Tryz.ntmps143
    go_wp2_with (go_at_call 124; refine (Out_any _ _ _ _).mono ?_; rintro e w' ⟨rfl, rfl⟩)
    go_ret
    exact ⟨ret_int HX.out.symm, hbl⟩
  obtain ⟨b, off, rfl, hc⟩ := h4 (by omega)
  have hn := (outB_false.1 o1)
  obtain ⟨hn1, hn2⟩ := hn
  have HX : Hid (ffault nets k ns = if (ns.any fun n => outB n 0 (nets - 1)) = true then 1
    else if (!outB k 3 5) ≠ decide (1 < ns.length) then 3
    else if risB (risOf k ns) = false then 7
    else if k = 5 ∧ conB (ns.drop 1) (ns[0]?.getD 0) = true then 6 else 0) := by show _ = _; simp [ffault, o1, o2, hm0, hm6]
  have HC : Hid (∀ j, j < ns.length → w.cell? ⟨b, off + j, none⟩ = some (.int .i64 (ns[j]?.getD 0))) := fun j hj => hc j _ (getD_map_int _ _ _ hj)
  have HT : Hid (∀ j, j < ns.length → ns.take (j + 1) = ns.take j ++ [ns[j]?.getD 0]) := fun j hj => by
    rw [List.take_succ_eq_append_getElem hj, List.getElem?_eq_getElem hj]; rfl
  have HTA : Hid (∀ m, m = ns.length → ns.take m = ns) := fun m h => by rw [h]; exact List.take_length
  have hne : ns.length ≠ 0 := hm0
  have HO : Hid (outB nets 1 100 = false ∧ outB k 1 6 = false) := ⟨o1, o2⟩
  have hm00 : 0 < ns.length := by omega
  have e0 : ((ns.length : Int) == 0) = false := beq_eq_false_iff_ne.2 (by omega)
  have hblt : b < w.heap.size := World.block_lt_of_cell? _ _ (HC.out 0 hm00)
  have HCW : Hid (∀ j, j < ns.length → (w.alloc (.cells #[.int .i64 k, .slice (some ⟨b, off, none⟩) ns.length c] 60)).cell? ⟨b, off + j, none⟩ = some (.int .i64 (ns[j]?.getD 0))) := fun j hj => by
    rw [World.cell?_alloc_past _ _ _ hblt]; exact HC.out j hj
  clear h3 h4 hc hm0 hne
  go_enter Tryz.func143, Tryz.ntmps143
  generalize hml : ns.length = m at *
  have HML := Lib.hid hml
  clear hml
  go_wp2_with (go_at_call 124; refine (Out_any _ _ _ _).mono ?_; rintro e w' ⟨rfl, rfl⟩)
  go_loop [29] (fun i => ∃ j : Nat, j ≤ m ∧ i = .int .i64 j ∧ Hid ((ns.take j).any (fun n => outB n 0 (nets - 1)) = false)) (fun i => m - (intOf i).toNat)
  case atStart => exact ⟨0, by omega, rfl, rfl⟩
  case round =>
    obtain ⟨j, hj, rfl, HA⟩ := hrel
    by_cases hlt : j < m
    · have e1 := HCW.out j hlt
      have HJ := Lib.hid (HT.out j hlt)
      have HMEM : Hid (ns[j]?.getD 0 ∈ ns) := by
        show _ ∈ _
        rw [List.getElem?_eq_getElem (by rw [HML.out]; exact hlt)]
        exact List.getElem_mem _
      generalize ns[j]?.getD 0 = x at *
      cases hx : outB x 0 (nets - 1)
      · go_wp2_with (go_at_call 124; refine (Out_any _ _ _ _).mono ?_; rintro e w' ⟨rfl, rfl⟩)
        go_round
        case rel => exact ⟨j + 1, by omega, by go_num, by show _ = _; rw [HJ.out, List.any_append, HA.out]; simp [hx]⟩
        case measure => simp [intOf]; omega
      · go_wp2_with (go_at_call 124; refine (Out_any _ _ _ _).mono ?_; rintro e w' ⟨rfl, rfl⟩)
        go_ret
        have ha : (ns.any fun n => outB n 0 (nets - 1)) = true := by rw [List.any_eq_true]; exact ⟨x, HMEM.out, hx⟩
        exact ⟨ret_int (by rw [HX.out, if_pos ha]), hbl⟩
    · obtain rfl : j = m := by omega
      have HX2 : Hid (ffault nets k ns = if (!outB k 3 5) ≠ decide (1 < j) then 3
        else if risB (risOf k ns) = false then 7
        else if k = 5 ∧ conB (ns.drop 1) (ns[0]?.getD 0) = true then 6 else 0) := by
        have ha : ¬ (ns.any fun n => outB n 0 (nets - 1)) = true := by have := HA.out; rw [HTA.out j rfl] at this; rw [this]; decide
        show _ = _
        rw [HX.out, if_neg ha]
      clear HX HA
      have HK5 : Hid (k = 5 → outB k 3 5 = false) := fun e => by rw [e]; rfl
      by_cases hne : (!outB k 3 5) ≠ decide (1 < j)
      · have HX3 : Hid (ffault nets k ns = 3) := by show _ = _; rw [HX2.out, if_pos hne]
        have hb : ((!outB k 3 5) == decide (1 < (j : Int))) = false := by
          have : decide (1 < j) = decide (1 < (j : Int)) := decide_eq_decide.2 (by omega)
          rw [← this]; exact beq_eq_false_iff_ne.2 hne
        clear hne
        go_wp2_with fail
        go_quiet ((go_at_call 76; exact quiet_left (isShort_any _ _)))
        go_wp2_with fail
        go_ret
        exact ⟨ret_int HX3.out.symm, pw_below_drewN hbl _⟩
      · have HX3 : Hid (ffault nets k ns = if risB (risOf k ns) = false then 7
          else if k = 5 ∧ conB (ns.drop 1) (ns[0]?.getD 0) = true then 6 else 0) := by show _ = _; rw [HX2.out, if_neg hne]
        have hb : ((!outB k 3 5) == decide (1 < (j : Int))) = true := by
          have : decide (1 < j) = decide (1 < (j : Int)) := decide_eq_decide.2 (by omega)
          rw [← this]; exact beq_iff_eq.2 (Decidable.not_not.1 hne)
        have HSH : Hid ((!outB k 3 5) = decide (1 < j)) := by show (!outB k 3 5) = decide (1 < j); exact Decidable.not_not.1 hne
        clear hne
        go_wp2_with fail
        go_quiet ((go_at_call 76; exact quiet_left (isShort_any _ _)))
        go_upto_if 50 with fail
        obtain ⟨W, hW⟩ : ∃ W, W = (w.alloc (.cells #[.int .i64 k, .slice (some ⟨b, off, none⟩) j c] 60)).drewN nq := ⟨_, rfl⟩
        have hbW : Below w.heap.size w W := by rw [hW]; exact pw_below_drewN hbl _
        have HCW' : Hid (∀ i, i < j → W.cell? ⟨b, off + i, none⟩ = some (.int .i64 (ns[i]?.getD 0))) := fun i hi => by rw [hW]; exact HCW.out i hi
        have k0 : W.cell? ⟨w.heap.size, 0, none⟩ = some (.int .i64 k) := by rw [hW]; show (w.alloc _).cell? _ = _; rw [World.cell?_alloc_at _ _ _ _ rfl]; rfl
        have k1 : W.cell? ⟨w.heap.size, 1, none⟩ = some (.slice (some ⟨b, off, none⟩) j c) := by rw [hW]; show (w.alloc _).cell? _ = _; rw [World.cell?_alloc_at _ _ _ _ rfl]; rfl
        have k2 : W.cell? ⟨b, off, none⟩ = some (.int .i64 (ns[0]?.getD 0)) := by have := HCW'.out 0 hm00; simpa using this
        rw [← hW]
        clear hW hb HCW
        go_cut [7] (fun v wx => RisV W b (risOf k ns) v ∧ wx = W)
        case first =>
          by_cases hk5 : k = 5
          · have h1j : 1 < j := by have := HSH.out; rw [HK5.out hk5] at this; simpa using this
            have hc1 : c ≠ 1 := by omega
            have b5 : (k == 5) = true := by simp [hk5]
            have HR : Hid (RisV W b (risOf k ns) (.slice (some ⟨b, off + 1, none⟩) (j - 1) (c - 1))) := by
              show RisV _ _ _ _
              rw [risOf, if_pos hk5]
              refine ⟨off + 1, c - 1, by rw [List.length_drop, HML.out], by rw [List.length_drop, HML.out]; omega, by omega, fun i hi => ?_⟩
              rw [List.length_drop, HML.out] at hi
              have := HCW'.out (i + 1) (by omega)
              rw [List.getElem?_drop, show off + 1 + i = off + (i + 1) by omega, show 1 + i = i + 1 by omega]
              exact this
            clear hk5
            go_wp2_with fail
            go_meet
            exact ⟨HR.out, rfl⟩
          · have b5 : (k == 5) = false := by simp [hk5]
            have HR : Hid (RisV W b (risOf k ns) (.slice (some ⟨b, off, none⟩) j c)) := by
              show RisV _ _ _ _
              rw [risOf, if_neg hk5]
              exact ⟨off, c, by rw [HML.out], by rw [HML.out]; exact h1, h2, fun i hi => HCW'.out i (by rw [← HML.out]; exact hi)⟩
            clear hk5
            go_wp2_with fail
            go_meet
            exact ⟨HR.out, rfl⟩
        case rest =>
          obtain ⟨hv, hwc⟩ := hcut
          rw [hwc]
          clear hwc
          have HX5 : Hid (∀ r, r = (risOf k ns) → ffault nets k ns = if risB r = false then 7 else if k = 5 ∧ conB (ns.drop 1) (ns[0]?.getD 0) = true then 6 else 0) := fun r h => by rw [h]; exact HX3.out
          have HRL : Hid ((risOf k ns).length ≤ 6) := by
            show (risOf k ns).length ≤ 6
            unfold risOf
            split
            · rw [List.length_drop, HML.out]; omega
            · rw [HML.out]; omega
          have HR5 : Hid (k = 5 → (risOf k ns) = ns.drop 1) := fun h => by rw [risOf, if_pos h]
          generalize (risOf k ns) = r at *
          obtain ⟨o, c', rfl, hrc1, hrc2, hcr⟩ := hv
          have HCR := Lib.hid hcr
          have hr6 := HRL.out
          have HX6 := Lib.hid (HX5.out r rfl)
          clear hcr HX5 HX3
          go_wp2_with fail
          go_loopw [8] (fun i wr => ∃ (i' q : Nat), 1 ≤ i' ∧ i' ≤ r.length + 1 ∧ i = .int .i64 i' ∧ Hid (risTo r i') ∧ wr = W.drewN q) (fun i _ => r.length + 1 - (intOf i).toNat)
          case atStart => exact ⟨1, 0, by omega, by omega, rfl, by intro j hj; have : j = 0 := by omega
                                                                   subst this; rfl, rfl⟩
          case round =>
            obtain ⟨i, q, hi1, hi2, rfl, HRT, rfl⟩ := hrel
            by_cases hlt : i < r.length
            · have e1 := HCR.out i hlt
              have e2 : W.cell? ⟨b, o + (i - 1), none⟩ = some (.int .i64 (r[i - 1]?.getD 0)) := HCR.out (i - 1) (by omega)
              have HS : Hid (r[i - 1]?.getD 0 < r[i]?.getD 0 → risTo r (i + 1)) := risTo_succ HRT.out
              have HN : Hid (¬ r[i - 1]?.getD 0 < r[i]?.getD 0 → risB r = false) := risTo_no hi1 hlt
              generalize r[i]?.getD 0 = x at *
              generalize r[i - 1]?.getD 0 = y at *
              by_cases hxy : x ≤ y
              · go_wp2_with fail
                go_quiet (fail)
                go_wp2_with fail
                go_ret
                exact ⟨ret_int (by rw [HX6.out, if_pos (HN.out (by omega))]), pw_below_drewN (pw_below_drewN hbW _) _⟩
              · go_wp2_with fail
                go_quiet (fail)
                go_wp2_with fail
                go_roundw
                case rel => exact ⟨i + 1, _, by omega, by omega, by go_num, HS.out (by omega), rfl⟩
                case measure => simp [intOf]; omega
            · have HX7 : Hid (ffault nets k ns = if k = 5 ∧ conB (ns.drop 1) (ns[0]?.getD 0) = true then 6 else 0) := by
                show _ = _
                rw [HX6.out, if_neg (by rw [risTo_all HRT.out (by omega)]; decide)]
              generalize ns[0]?.getD 0 = n0 at *
              by_cases hk5 : k = 5
              · have b5 : (k == 5) = true := by simp [hk5]
                have HX8 : Hid (ffault nets k ns = if conB r n0 = true then 6 else 0) := by
                  show _ = _
                  rw [HX7.out, HR5.out hk5]
                  by_cases hcb : conB (ns.drop 1) n0 = true
                  · rw [if_pos hcb, if_pos ⟨hk5, hcb⟩]
                  · rw [if_neg hcb, if_neg (fun h => hcb h.2)]
                clear hk5 HX7
                have HRD : Hid (Rd (W.drewN q) 1 (.slice (some ⟨b, o, none⟩) r.length c') r.length (r.map (.int .i64))) := by
                  refine ⟨_, c', rfl, hrc1, hrc2, by simp, fun _ => ⟨b, o, rfl, fun i u hu => ?_⟩⟩
                  have hi : i < r.length := by rcases Nat.lt_or_ge i r.length with h | h; · exact h
                                               · rw [List.getElem?_eq_none (by simpa using h)] at hu; cases hu
                  rw [getD_map_int _ _ _ hi] at hu
                  rw [← Option.some.inj hu]
                  exact HCR.out i hi
                cases hcb : conB r n0
                · go_wp2_with (go_at_call 44; refine (Contains_any _ _ r _ _ HRD.out (by omega)).mono ?_; rintro e w' ⟨rfl, rfl⟩)
                  go_ret
                  exact ⟨ret_int (by rw [HX8.out, hcb]; rfl), pw_below_drewN hbW _⟩
                · go_wp2_with (go_at_call 44; refine (Contains_any _ _ r _ _ HRD.out (by omega)).mono ?_; rintro e w' ⟨rfl, rfl⟩)
                  go_ret
                  exact ⟨ret_int (by rw [HX8.out, hcb]; rfl), pw_below_drewN hbW _⟩
              · have b5 : (k == 5) = false := by simp [hk5]
                have HX8 : Hid (ffault nets k ns = 0) := by show _ = _; rw [HX7.out, if_neg (fun h => hk5 h.1)]
                clear hk5 HX7
                go_wp2_with fail
                go_ret
                exact ⟨ret_int HX8.out.symm, pw_below_drewN hbW _⟩
end Go.Proofs.YtedpnjbbcfiheaaGreatDoor

/- IndexFunc and ContainsFunc at numbers, whatever function is handed over that only makes memory. -/
set_option linter.unusedVariables false
namespace Go.Proofs.YtedpnjbbcfiheaaGreatDoor
open Go.RowKit Go.Sc
/-- the function value answers p x at every x of the list, whatever has been made since -/
def Ans (P : Program) (w : World) (F : FuncId) (cap : Array Value) (val : Int → Value) (p : Int → Bool) (xs : List Int) : Prop :=
  ∀ W, Below w.heap.size w W → ∀ x ∈ xs, Calls P F (#[val x] ++ cap) W fun e w' => e = .returned (.bool (p x)) ∧ Below W.heap.size W w'
def goF {α : Type} (p : α → Bool) : Nat → List α → Int
  | _, [] => -1
  | i, x :: r => if p x = true then (i : Int) else goF p (i + 1) r
def idxF {α : Type} (p : α → Bool) (xs : List α) : Int := goF p 0 xs
theorem goF_lo {α : Type} (p : α → Bool) (i : Nat) (xs : List α) : -1 ≤ goF p i xs := by
  induction xs generalizing i with
  | nil => simp [goF]
  | cons x r ih =>
    rw [goF]
    split
    · omega
    · exact ih _
theorem goF_any {α : Type} (p : α → Bool) (i : Nat) (xs : List α) : decide (0 ≤ goF p i xs) = xs.any p := by
  induction xs generalizing i with
  | nil => simp [goF]
  | cons x r ih =>
    rw [goF, List.any_cons]
    cases hp : p x
    · rw [if_neg (by decide), ih]; rfl
    · rw [if_pos rfl]; simp
def anyF {α : Type} (p : α → Bool) (xs : List α) : Bool := xs.any p
set_option maxRecDepth 100000 in
theorem IndexFunc_any (v : Value) (n : Nat) (xs : List Int) (F : FuncId) (cap : Array Value) (p : Int → Bool) (w : World) (hr : Rd w 1 v n (xs.map (.int .i64))) (hn : n ≤ 1000000) (hA : Ans Tryz.prog w F cap (.int .i64) p xs) (he : ∀ args W, (callFunc F args).run Tryz.prog W = .ok (.enter F args) W) :
    Calls Tryz.prog 118 #[v, .func (.func F) #[] cap] w fun e w' => e = .returned (.int .i64 (idxF p xs)) ∧ Below w.heap.size w w' := by
  have hl : xs.length = n := by have := hr.len; simpa using this
  have HR := Lib.hid hr
  obtain ⟨A, c, rfl, h1, h2, h3, h4⟩ := hr
  have HA := Lib.hid hA
  clear hA h3
  go_enter Tryz.func118, Tryz.ntmps118
  go_wp2_with fail
  go_loopw [8] (fun i wr => ∃ k : Nat, k ≤ n ∧ i = .int .i64 k ∧ Hid (idxF p xs = goF p k (xs.drop k)) ∧ Below w.heap.size w wr) (fun i _ => n - (intOf i).toNat)
  case atStart => exact ⟨0, by omega, rfl, rfl, Below.refl _ _⟩
  case round =>
    obtain ⟨k, hk, rfl, HK, hbel⟩ := hrel
    by_cases hlt : k < n
    · obtain ⟨b, off, rfl, hc⟩ := h4 (by omega)
      obtain ⟨x, hx⟩ : ∃ x, xs[k]? = some x := ⟨xs[k]'(by omega), List.getElem?_eq_getElem _⟩
      have c1 := cell_below hbel _ _ (hc k (.int .i64 x) (by simp [hx]))
      have HX : Hid (idxF p xs = if p x = true then (k : Int) else goF p (k + 1) (xs.drop (k + 1))) := by show _ = _; rw [HK.out, drop_at hx, goF]
      have HC := Lib.hid (HA.out _ hbel x (List.mem_of_getElem? hx))
      clear hx hc HK
      go_wp2_with fail
      refine HC.out.mono ?_
      rintro e w2 ⟨rfl, hb2⟩
      cases hp : p x
      · have HY : Hid (idxF p xs = goF p (k + 1) (xs.drop (k + 1))) := by show _ = _; rw [HX.out, hp]; rfl
        go_wp2_with fail
        go_roundw
        case rel => exact ⟨k + 1, by omega, by go_num, HY, hbel.trans (hb2.mono hbel.size)⟩
        case measure => simp [intOf]; omega
      · have HY : Hid (idxF p xs = (k : Int)) := by show _ = _; rw [HX.out, hp]; rfl
        go_wp2_with fail
        go_ret
        exact ⟨ret_int HY.out.symm, hbel.trans (hb2.mono hbel.size)⟩
    · obtain rfl : k = n := by omega
      have HY : Hid (idxF p xs = -1) := by show _ = _; rw [HK.out, List.drop_eq_nil_of_le (by omega)]; rfl
      go_wp2_with fail
      go_ret
      exact ⟨ret_int HY.out.symm, hbel⟩
theorem ContainsFunc_any (v : Value) (n : Nat) (xs : List Int) (F : FuncId) (cap : Array Value) (p : Int → Bool) (w : World) (hr : Rd w 1 v n (xs.map (.int .i64))) (hn : n ≤ 1000000) (hA : Ans Tryz.prog w F cap (.int .i64) p xs) (he : ∀ args W, (callFunc F args).run Tryz.prog W = .ok (.enter F args) W) :
    Calls Tryz.prog 121 #[v, .func (.func F) #[] cap] w fun e w' => e = .returned (.bool (anyF p xs)) ∧ Below w.heap.size w w' := by
  have hx := goF_lo p 0 xs
  have HG := Lib.hid (goF_any p 0 xs)
  have HI : Hid (idxF p xs = goF p 0 xs) := rfl
  have HR := Lib.hid hr
  have HA := Lib.hid hA
  clear hr hA
  go_enter Tryz.func121, Tryz.ntmps121
  go_wp2_with fail
  refine (IndexFunc_any v n xs F cap p w HR.out hn HA.out he).mono ?_
  rintro e w2 ⟨rfl, hb2⟩
  rw [HI.out]
  generalize goF p 0 xs = i at *
  go_wp2_with fail
  go_ret
  exact ⟨ret_bool (by rw [anyF]; exact HG.out), hb2⟩
end Go.Proofs.YtedpnjbbcfiheaaGreatDoor

/- Walk of FaultFault, the reference of CheckFault. -/
set_option linter.unusedVariables false
namespace Go.Proofs.YtedpnjbbcfiheaaGreatDoor
open Go.RowKit Go.Sc
theorem FFclos_any (n nets : Int) (g : Nat) (W : World) (hc : W.cell? ⟨g, 0, none⟩ = some (.int .i64 nets)) (h1 : 1 ≤ nets) (h2 : nets ≤ 100) :
    Calls Tryz.prog 131 #[.int .i64 n, .pointer (some ⟨g, 0, none⟩)] W fun e w' => e = .returned (.bool (outB n 0 (nets - 1))) ∧ W = w' := by
  go_enter Tryz.func131, Tryz.ntmps131
  go_wp2_with (go_at_call 79; refine (in_any _ _ _ _).mono ?_; rintro e w' ⟨rfl, rfl⟩)
  go_ret
  exact ⟨ret_bool (by simp), rfl⟩
set_option maxRecDepth 100000 in
set_option maxHeartbeats 2000000 in
theorem FaultFault_any (nets k : Int) (fv : Value) (ns : List Int) (w : World) (hf : FV w fv k ns) :
    Calls Tryz.prog 87 #[.int .i64 nets, fv] w fun e w' => e = .returned (.int .i64 (ffault nets k ns)) ∧ Below w.heap.size w w' := by
  obtain ⟨nv, rfl, hr⟩ := hf
  obtain ⟨A, c, rfl, h1, h2, h3, h4⟩ := hr
  have hbl : Below w.heap.size w ((w.alloc (.cells #[.int .i64 nets] 3)).alloc (.cells #[.int .i64 k, .slice A ns.length c] 60)) := ((Below.refl _ _).alloc (Nat.le_refl _) _).alloc (by simp) _
  have HF : Hid (ffault nets k ns = ffault nets k ns) := rfl
  cases o1 : outB nets 1 100
  case true =>
    have HX : Hid (ffault nets k ns = 1) := by show ffault nets k ns = 1; simp [ffault, o1]
    go_enter Tryz.func87, Tryz.ntmps87
    go_wp2_with (go_at_call 79; refine (in_any _ _ _ _).mono ?_; rintro e w' ⟨rfl, rfl⟩)
    go_ret
    exact ⟨ret_int HX.out.symm, hbl⟩
  case false =>
  cases o2 : outB k 1 6
  case true =>
    have HX : Hid (ffault nets k ns = 4) := by show ffault nets k ns = 4; simp [ffault, o1, o2]
    go_enter Tryz.func87, Tryz.ntmps87
    go_wp2_with (go_at_call 79; refine (in_any _ _ _ _).mono ?_; rintro e w' ⟨rfl, rfl⟩)
    go_ret
    exact ⟨ret_int HX.out.symm, hbl⟩
  case false =>
  by_cases hm0 : ns.length = 0
  · have HX : Hid (ffault nets k ns = 8) := by show ffault nets k ns = 8; simp [ffault, o1, o2, hm0]
    clear h3 h4
    generalize ns.length = m at *
    subst hm0
    go_enter Tryz.func87, Tryz.ntmps87
    go_wp2_with (go_at_call 79; refine (in_any _ _ _ _).mono ?_; rintro e w' ⟨rfl, rfl⟩)
    go_ret
    exact ⟨ret_int HX.out.symm, hbl⟩
  by_cases hm6 : 6 < ns.length
  · have HX : Hid (ffault nets k ns = 2) := by show ffault nets k ns = 2; simp [ffault, o1, o2, hm0, hm6]
    clear h3 h4
    generalize ns.length = m at *
    have e0 : ((m : Int) == 0) = false := by simp; omega
    go_enter Tryz.func87, Tryz.ntmps87
    go_wp2_with (go_at_call 79; refine (in_any _ _ _ _).mono ?_; rintro e w' ⟨rfl, rfl⟩)
    go_ret
    exact ⟨ret_int HX.out.symm, hbl⟩
  obtain ⟨b, off, rfl, hc⟩ := h4 (by omega)
  have hn := (outB_false.1 o1)
  obtain ⟨hn1, hn2⟩ := hn
  have HX : Hid (ffault nets k ns = if (ns.any fun n => outB n 0 (nets - 1)) = true then 1
    else if (!outB k 3 5) ≠ decide (1 < ns.length) then 3
    else if risB (risOf k ns) = false then 7
    else if k = 5 ∧ conB (ns.drop 1) (ns[0]?.getD 0) = true then 6 else 0) := by show _ = _; simp [ffault, o1, o2, hm0, hm6]
  have HC : Hid (∀ j, j < ns.length → w.cell? ⟨b, off + j, none⟩ = some (.int .i64 (ns[j]?.getD 0))) := fun j hj => hc j _ (getD_map_int _ _ _ hj)
  have HT : Hid (∀ j, j < ns.length → ns.take (j + 1) = ns.take j ++ [ns[j]?.getD 0]) := fun j hj => by
    rw [List.take_succ_eq_append_getElem hj, List.getElem?_eq_getElem hj]; rfl
  have HTA : Hid (∀ m, m = ns.length → ns.take m = ns) := fun m h => by rw [h]; exact List.take_length
  have hne : ns.length ≠ 0 := hm0
  have HO : Hid (outB nets 1 100 = false ∧ outB k 1 6 = false) := ⟨o1, o2⟩
  have hm00 : 0 < ns.length := by omega
  have e0 : ((ns.length : Int) == 0) = false := beq_eq_false_iff_ne.2 (by omega)
  have hblt : b < w.heap.size := World.block_lt_of_cell? _ _ (HC.out 0 hm00)
  have HCW : Hid (∀ j, j < ns.length → ((w.alloc (.cells #[.int .i64 nets] 3)).alloc (.cells #[.int .i64 k, .slice (some ⟨b, off, none⟩) ns.length c] 60)).cell? ⟨b, off + j, none⟩ = some (.int .i64 (ns[j]?.getD 0))) := fun j hj => by
    rw [World.cell?_alloc_past _ _ _ (by simp; omega), World.cell?_alloc_past _ _ _ hblt]; exact HC.out j hj
  clear h3 h4 hc hm0 hne
  go_enter Tryz.func87, Tryz.ntmps87
  generalize hml : ns.length = m at *
  have HML := Lib.hid hml
  clear hml
  have hHE : ∀ args W, (callFunc 131 args).run Tryz.prog W = .ok (.enter 131 args) W := enters_of Tryz.func131 (by kernel_rfl) rfl
  have HR : Hid (Rd ((w.alloc (.cells #[.int .i64 nets] 3)).alloc (.cells #[.int .i64 k, .slice (some ⟨b, off, none⟩) m c] 60)) 1 (.slice (some ⟨b, off, none⟩) m c) m (ns.map (.int .i64))) := by
    refine ⟨_, c, rfl, h1, h2, by simp [HML.out], fun _ => ⟨b, off, rfl, fun i u hu => ?_⟩⟩
    have hi : i < ns.length := by
      rcases Nat.lt_or_ge i ns.length with h | h
      · exact h
      · rw [List.getElem?_eq_none (by simpa using h)] at hu; cases hu
    rw [getD_map_int _ _ _ hi] at hu
    rw [← Option.some.inj hu]
    exact HCW.out i (by rw [← HML.out]; exact hi)
  have hcn : ((w.alloc (.cells #[.int .i64 nets] 3)).alloc (.cells #[.int .i64 k, .slice (some ⟨b, off, none⟩) m c] 60)).cell? ⟨w.heap.size, 0, none⟩ = some (.int .i64 nets) := by
    rw [World.cell?_alloc_past _ _ _ (by simp), World.cell?_alloc_at _ _ _ _ rfl]; rfl
  have hk0 : ((w.alloc (.cells #[.int .i64 nets] 3)).alloc (.cells #[.int .i64 k, .slice (some ⟨b, off, none⟩) m c] 60)).cell? ⟨w.heap.size + 1, 0, none⟩ = some (.int .i64 k) := by
    rw [World.cell?_alloc_at _ _ _ _ (by simp)]; rfl
  have hk1 : ((w.alloc (.cells #[.int .i64 nets] 3)).alloc (.cells #[.int .i64 k, .slice (some ⟨b, off, none⟩) m c] 60)).cell? ⟨w.heap.size + 1, 1, none⟩ = some (.slice (some ⟨b, off, none⟩) m c) := by
    rw [World.cell?_alloc_at _ _ _ _ (by simp)]; rfl
  have HANS : Hid (Ans Tryz.prog ((w.alloc (.cells #[.int .i64 nets] 3)).alloc (.cells #[.int .i64 k, .slice (some ⟨b, off, none⟩) m c] 60)) 131 #[.pointer (some ⟨w.heap.size, 0, none⟩)] (.int .i64) (fun n => outB n 0 (nets - 1)) ns) := by
    intro W' hb' x hx
    exact (FFclos_any x nets w.heap.size W' (cell_below hb' _ _ hcn) hn1 hn2).mono fun _ _ ⟨e1, e2⟩ => ⟨e1, e2 ▸ Below.refl _ _⟩
  have HHE := Lib.hid hHE
  clear hHE
  go_wp2_with (go_at_call 79; refine (in_any _ _ _ _).mono ?_; rintro e w' ⟨rfl, rfl⟩)
  refine (ContainsFunc_any _ m ns _ _ (fun n => outB n 0 (nets - 1)) _ HR.out (by omega) HANS.out HHE.out).mono ?_
  rintro e w2 ⟨rfl, hb2⟩
  have k0 := cell_below hb2 _ _ hk0
  have k1 := cell_below hb2 _ _ hk1
  have hbl2 : Below w.heap.size w w2 := hbl.trans (hb2.mono (by simp; omega))
  have HCW2 : Hid (∀ i, i < m → w2.cell? ⟨b, off + i, none⟩ = some (.int .i64 (ns[i]?.getD 0))) := fun i hi => cell_below hb2 _ _ (HCW.out i hi)
  clear hk0 hk1 hcn HCW
  cases hany : anyF (fun n => outB n 0 (nets - 1)) ns
  case true =>
    have HX3 : Hid (ffault nets k ns = 1) := by show _ = _; rw [HX.out, if_pos (show (ns.any fun n => outB n 0 (nets - 1)) = true from hany)]
    go_wp2_with fail
    go_ret
    exact ⟨ret_int HX3.out.symm, hbl2⟩
  case false =>
  obtain ⟨j, rfl⟩ : ∃ j, j = m := ⟨m, rfl⟩
  have HX2 : Hid (ffault nets k ns = if (!outB k 3 5) ≠ decide (1 < j) then 3
    else if risB (risOf k ns) = false then 7
    else if k = 5 ∧ conB (ns.drop 1) (ns[0]?.getD 0) = true then 6 else 0) := by
    have ha : ¬ (ns.any fun n => outB n 0 (nets - 1)) = true := by rw [show (ns.any fun n => outB n 0 (nets - 1)) = false from hany]; decide
    show _ = _
    rw [HX.out, if_neg ha]
  clear HX
  have HK5 : Hid (k = 5 → outB k 3 5 = false) := fun e => by rw [e]; rfl
  by_cases hne : (!outB k 3 5) ≠ decide (1 < j)
  · have HX3 : Hid (ffault nets k ns = 3) := by show _ = _; rw [HX2.out, if_pos hne]
    have hb : ((!outB k 3 5) == decide (1 < (j : Int))) = false := by
      have : decide (1 < j) = decide (1 < (j : Int)) := decide_eq_decide.2 (by omega)
      rw [← this]; exact beq_eq_false_iff_ne.2 hne
    clear hne
    go_wp2_with fail
    go_quiet ((go_at_call 80; exact quiet_left (short_any _ _)))
    go_wp2_with fail
    go_ret
    exact ⟨ret_int HX3.out.symm, pw_below_drewN hbl2 _⟩
  · have HX3 : Hid (ffault nets k ns = if risB (risOf k ns) = false then 7
      else if k = 5 ∧ conB (ns.drop 1) (ns[0]?.getD 0) = true then 6 else 0) := by show _ = _; rw [HX2.out, if_neg hne]
    have hb : ((!outB k 3 5) == decide (1 < (j : Int))) = true := by
      have : decide (1 < j) = decide (1 < (j : Int)) := decide_eq_decide.2 (by omega)
      rw [← this]; exact beq_iff_eq.2 (Decidable.not_not.1 hne)
    have HSH : Hid ((!outB k 3 5) = decide (1 < j)) := by show (!outB k 3 5) = decide (1 < j); exact Decidable.not_not.1 hne
    clear hne
    go_wp2_with fail
    go_quiet ((go_at_call 80; exact quiet_left (short_any _ _)))
    go_upto_if 44 with fail
    obtain ⟨W, hW⟩ : ∃ W, W = w2.drewN nq := ⟨_, rfl⟩
    have hbW : Below w.heap.size w W := by rw [hW]; exact pw_below_drewN hbl2 _
    have HCW' : Hid (∀ i, i < j → W.cell? ⟨b, off + i, none⟩ = some (.int .i64 (ns[i]?.getD 0))) := fun i hi => by rw [hW]; exact HCW2.out i hi
    have k0' : W.cell? ⟨w.heap.size + 1, 0, none⟩ = some (.int .i64 k) := by rw [hW]; exact k0
    have k1' : W.cell? ⟨w.heap.size + 1, 1, none⟩ = some (.slice (some ⟨b, off, none⟩) j c) := by rw [hW]; exact k1
    have k2 : W.cell? ⟨b, off, none⟩ = some (.int .i64 (ns[0]?.getD 0)) := by have := HCW'.out 0 hm00; simpa using this
    rw [← hW]
    clear hW hb HCW2 k0 k1
    go_cut [5] (fun v wx => RisV W b (risOf k ns) v ∧ wx = W)
    case first =>
      by_cases hk5 : k = 5
      · have h1j : 1 < j := by have := HSH.out; rw [HK5.out hk5] at this; simpa using this
        have hc1 : c ≠ 1 := by omega
        have b5 : (k == 5) = true := by simp [hk5]
        have HR : Hid (RisV W b (risOf k ns) (.slice (some ⟨b, off + 1, none⟩) (j - 1) (c - 1))) := by
          show RisV _ _ _ _
          rw [risOf, if_pos hk5]
          refine ⟨off + 1, c - 1, by rw [List.length_drop, HML.out], by rw [List.length_drop, HML.out]; omega, by omega, fun i hi => ?_⟩
          rw [List.length_drop, HML.out] at hi
          have := HCW'.out (i + 1) (by omega)
          rw [List.getElem?_drop, show off + 1 + i = off + (i + 1) by omega, show 1 + i = i + 1 by omega]
          exact this
        clear hk5
        go_wp2_with fail
        go_meet
        exact ⟨HR.out, rfl⟩
      · have b5 : (k == 5) = false := by simp [hk5]
        have HR : Hid (RisV W b (risOf k ns) (.slice (some ⟨b, off, none⟩) j c)) := by
          show RisV _ _ _ _
          rw [risOf, if_neg hk5]
          exact ⟨off, c, by rw [HML.out], by rw [HML.out]; exact h1, h2, fun i hi => HCW'.out i (by rw [← HML.out]; exact hi)⟩
        clear hk5
        go_wp2_with fail
        go_meet
        exact ⟨HR.out, rfl⟩
    case rest =>
      obtain ⟨hv, hwc⟩ := hcut
      rw [hwc]
      clear hwc
      have HX5 : Hid (∀ r, r = (risOf k ns) → ffault nets k ns = if risB r = false then 7 else if k = 5 ∧ conB (ns.drop 1) (ns[0]?.getD 0) = true then 6 else 0) := fun r h => by rw [h]; exact HX3.out
      have HRL : Hid ((risOf k ns).length ≤ 6) := by
        show (risOf k ns).length ≤ 6
        unfold risOf
        split
        · rw [List.length_drop, HML.out]; omega
        · rw [HML.out]; omega
      have HR5 : Hid (k = 5 → (risOf k ns) = ns.drop 1) := fun h => by rw [risOf, if_pos h]
      generalize (risOf k ns) = r at *
      obtain ⟨o, c', rfl, hrc1, hrc2, hcr⟩ := hv
      have HCR := Lib.hid hcr
      have hr6 := HRL.out
      have HX6 := Lib.hid (HX5.out r rfl)
      clear hcr HX5 HX3
      go_wp2_with fail
      go_loopw [6] (fun i wr => ∃ (i' q : Nat), 1 ≤ i' ∧ i' ≤ r.length + 1 ∧ i = .int .i64 i' ∧ Hid (risTo r i') ∧ wr = W.drewN q) (fun i _ => r.length + 1 - (intOf i).toNat)
      case atStart => exact ⟨1, 0, by omega, by omega, rfl, by intro j hj; have : j = 0 := by omega
                                                               subst this; rfl, rfl⟩
      case round =>
        obtain ⟨i, q, hi1, hi2, rfl, HRT, rfl⟩ := hrel
        by_cases hlt : i < r.length
        · have e1 := HCR.out i hlt
          have e2 : W.cell? ⟨b, o + (i - 1), none⟩ = some (.int .i64 (r[i - 1]?.getD 0)) := HCR.out (i - 1) (by omega)
          have HS : Hid (r[i - 1]?.getD 0 < r[i]?.getD 0 → risTo r (i + 1)) := risTo_succ HRT.out
          have HN : Hid (¬ r[i - 1]?.getD 0 < r[i]?.getD 0 → risB r = false) := risTo_no hi1 hlt
          generalize r[i]?.getD 0 = x at *
          generalize r[i - 1]?.getD 0 = y at *
          by_cases hxy : x ≤ y
          · go_wp2_with fail
            go_quiet (fail)
            go_wp2_with fail
            go_ret
            exact ⟨ret_int (by rw [HX6.out, if_pos (HN.out (by omega))]), pw_below_drewN (pw_below_drewN hbW _) _⟩
          · go_wp2_with fail
            go_quiet (fail)
            go_wp2_with fail
            go_roundw
            case rel => exact ⟨i + 1, _, by omega, by omega, by go_num, HS.out (by omega), rfl⟩
            case measure => simp [intOf]; omega
        · have HX7 : Hid (ffault nets k ns = if k = 5 ∧ conB (ns.drop 1) (ns[0]?.getD 0) = true then 6 else 0) := by
            show _ = _
            rw [HX6.out, if_neg (by rw [risTo_all HRT.out (by omega)]; decide)]
          generalize ns[0]?.getD 0 = n0 at *
          by_cases hk5 : k = 5
          · have b5 : (k == 5) = true := by simp [hk5]
            have HX8 : Hid (ffault nets k ns = if conB r n0 = true then 6 else 0) := by
              show _ = _
              rw [HX7.out, HR5.out hk5]
              by_cases hcb : conB (ns.drop 1) n0 = true
              · rw [if_pos hcb, if_pos ⟨hk5, hcb⟩]
              · rw [if_neg hcb, if_neg (fun h => hcb h.2)]
            clear hk5 HX7
            have HRD : Hid (Rd (W.drewN q) 1 (.slice (some ⟨b, o, none⟩) r.length c') r.length (r.map (.int .i64))) := by
              refine ⟨_, c', rfl, hrc1, hrc2, by simp, fun _ => ⟨b, o, rfl, fun i u hu => ?_⟩⟩
              have hi : i < r.length := by rcases Nat.lt_or_ge i r.length with h | h; · exact h
                                           · rw [List.getElem?_eq_none (by simpa using h)] at hu; cases hu
              rw [getD_map_int _ _ _ hi] at hu
              rw [← Option.some.inj hu]
              exact HCR.out i hi
            cases hcb : conB r n0
            · go_wp2_with (go_at_call 44; refine (Contains_any _ _ r _ _ HRD.out (by omega)).mono ?_; rintro e w' ⟨rfl, rfl⟩)
              go_ret
              exact ⟨ret_int (by rw [HX8.out, hcb]; rfl), pw_below_drewN hbW _⟩
            · go_wp2_with (go_at_call 44; refine (Contains_any _ _ r _ _ HRD.out (by omega)).mono ?_; rintro e w' ⟨rfl, rfl⟩)
              go_ret
              exact ⟨ret_int (by rw [HX8.out, hcb]; rfl), pw_below_drewN hbW _⟩
          · have b5 : (k == 5) = false := by simp [hk5]
            have HX8 : Hid (ffault nets k ns = 0) := by show _ = _; rw [HX7.out, if_neg (fun h => hk5 h.1)]
            clear hk5 HX7
            go_wp2_with fail
            go_ret
            exact ⟨ret_int HX8.out.symm, pw_below_drewN hbW _⟩
end Go.Proofs.YtedpnjbbcfiheaaGreatDoor

/- Walks of faultsFault, manyFault, FaultsFault, listFault. -/
set_option linter.unusedVariables false
namespace Go.Proofs.YtedpnjbbcfiheaaGreatDoor
open Go.RowKit Go.Sc
def fsL (nets : Int) : List (Int × List Int) → Int
  | [] => 0
  | f :: r => if ffault nets f.1 f.2 = 0 then fsL nets r else ffault nets f.1 f.2
def lfault (ss : List ByteArray) (fs : List (Int × List Int)) : Int := if tfault ss = 0 then (if 20000 < fs.length then 2 else fsL ss.length fs) else tfault ss
theorem ffault_ok {nets k : Int} {ns : List Int} (h : ffault nets k ns = 0) : 1 ≤ nets ∧ nets ≤ 100 ∧ 1 ≤ k ∧ k ≤ 6 ∧ 1 ≤ ns.length ∧ ns.length ≤ 6 ∧ (∀ x ∈ ns, 0 ≤ x ∧ x < nets) ∧ ((!outB k 3 5) = decide (1 < ns.length)) := by
  unfold ffault at h
  split at h
  · cases h
  · split at h
    · cases h
    · split at h
      · cases h
      · split at h
        · cases h
        · split at h
          · cases h
          · split at h
            · cases h
            · rename_i h1 h2 h3 h4 h5 h6
              obtain ⟨a1, a2⟩ := outB_false.1 (by simpa using h1)
              obtain ⟨b1, b2⟩ := outB_false.1 (by simpa using h2)
              refine ⟨a1, a2, b1, b2, by omega, by omega, fun x hx => ?_, Decidable.not_not.1 h6⟩
              rw [Bool.not_eq_true, List.any_eq_false] at h5
              have := h5 x hx
              obtain ⟨c1, c2⟩ := outB_false.1 (by simpa using this)
              omega
theorem fsL_ok {nets : Int} {fs : List (Int × List Int)} (h : fsL nets fs = 0) : ∀ f ∈ fs, ffault nets f.1 f.2 = 0 := by
  induction fs with
  | nil => simp
  | cons f r ih =>
    unfold fsL at h
    split at h
    · rename_i h0
      intro x hx
      rcases List.mem_cons.1 hx with rfl | hx
      · exact h0
      · exact ih h x hx
    · rename_i h0
      exact absurd h h0
theorem lfault_ok {ss : List ByteArray} {fs : List (Int × List Int)} (h : lfault ss fs = 0) : tfault ss = 0 ∧ fs.length ≤ 20000 ∧ ∀ f ∈ fs, ffault ss.length f.1 f.2 = 0 := by
  unfold lfault at h
  split at h
  · rename_i h0
    split at h
    · cases h
    · exact ⟨h0, by omega, fsL_ok h⟩
  · rename_i h0
    exact absurd h h0
theorem FOk_of {n : Nat} {k : Int} {ns : List Int} (h : ffault n k ns = 0) : FOk n k ns := by
  obtain ⟨_, _, _, _, h1, h2, h3, _⟩ := ffault_ok h
  exact ⟨h1, h2, fun x hx => ⟨(h3 x hx).1, (h3 x hx).2⟩⟩
set_option maxRecDepth 100000 in
set_option maxHeartbeats 1000000 in
theorem FaultsFault_any (nets : Int) (fv : Value) (fs : List (Int × List Int)) (w : World) (hf : RdF w fv fs) :
    Calls Tryz.prog 65 #[.int .i64 nets, fv] w fun e w' => e = .returned (.int .i64 (if 20000 < fs.length then 2 else fsL nets fs)) ∧ Below w.heap.size w w' := by
  obtain ⟨A2, c2, rfl, f1, f2, f3⟩ := hf
  by_cases hbig : 20000 < fs.length
  · have HX : Hid ((if 20000 < fs.length then 2 else fsL nets fs) = 2) := if_pos hbig
    clear f3
    generalize (if 20000 < fs.length then 2 else fsL nets fs) = res at *
    go_enter Tryz.func65, Tryz.ntmps65
    go_wp2_with fail
    go_ret
    exact ⟨ret_int HX.out.symm, Below.refl _ _⟩
  · have HX : Hid ((if 20000 < fs.length then 2 else fsL nets fs) = fsL nets (fs.drop 0)) := if_neg hbig
    generalize (if 20000 < fs.length then 2 else fsL nets fs) = res at *
    go_enter Tryz.func65, Tryz.ntmps65
    go_wp2_with fail
    go_loopw [13] (fun i wr => ∃ k : Nat, k ≤ fs.length ∧ i = .int .i64 k ∧ Hid (res = fsL nets (fs.drop k)) ∧ Below w.heap.size w wr) (fun i _ => fs.length - (intOf i).toNat)
    case atStart => exact ⟨0, by omega, rfl, HX, Below.refl _ _⟩
    case round =>
      obtain ⟨k, hk, rfl, HK, hbel⟩ := hrel
      clear HX
      by_cases hlt : k < fs.length
      · obtain ⟨b2, off2, rfl, hf2⟩ := f3 (by omega)
        obtain ⟨f, hfk⟩ : ∃ f, fs[k]? = some f := ⟨fs[k]'(by omega), List.getElem?_eq_getElem _⟩
        obtain ⟨nv, g1, g2, g3⟩ := hf2 k f hfk
        have g1' := cell_below hbel _ _ g1
        have g2' := cell_below hbel _ _ g2
        have G3 := Lib.hid g3
        obtain ⟨A3, c3, rfl, _, _, _, _⟩ := g3
        have HU : Hid (res = if ffault nets f.1 f.2 = 0 then fsL nets (fs.drop (k + 1)) else ffault nets f.1 f.2) := by show res = _; rw [HK.out, drop_at hfk, fsL]
        have hbw : Below w.heap.size w (wr.alloc (.cells #[.int .i64 f.1, .slice A3 f.2.length c3] 60)) := hbel.alloc hbel.size _
        have HFV : Hid (FV (wr.alloc (.cells #[.int .i64 f.1, .slice A3 f.2.length c3] 60)) (.agg #[.int .i64 f.1, .slice A3 f.2.length c3]) f.1 f.2) := ⟨_, rfl, G3.out.below hbw⟩
        clear hfk g1 g2 HK
        by_cases h0 : ffault nets f.1 f.2 = 0
        · have HU2 : Hid (res = fsL nets (fs.drop (k + 1))) := by show res = _; rw [HU.out, if_pos h0]
          have HZ := Lib.hid h0
          clear h0 HU
          go_wp2_with fail
          refine (FaultFault_any _ _ _ _ _ HFV.out).mono ?_
          rintro e w3 ⟨rfl, hb3⟩
          rw [HZ.out]
          go_wp2_with fail
          go_roundw
          case rel => exact ⟨k + 1, by omega, by go_num, HU2, hbw.trans (hb3.mono (by have := hbw.size; exact this))⟩
          case measure => simp [intOf]; omega
        · have HU2 : Hid (res = ffault nets f.1 f.2) := by show res = _; rw [HU.out, if_neg h0]
          have e0 : (ffault nets f.1 f.2 == 0) = false := beq_eq_false_iff_ne.2 h0
          clear HU
          go_wp2_with fail
          refine (FaultFault_any _ _ _ _ _ HFV.out).mono ?_
          rintro e w3 ⟨rfl, hb3⟩
          generalize ffault nets f.1 f.2 = r at *
          go_wp2_with fail
          go_ret
          exact ⟨ret_int HU2.out.symm, hbw.trans (hb3.mono (by have := hbw.size; exact this))⟩
      · obtain rfl : k = fs.length := by omega
        have HZ : Hid (res = 0) := by show res = 0; rw [HK.out, List.drop_length]; rfl
        go_wp2_with fail
        go_ret
        exact ⟨ret_int HZ.out.symm, hbel⟩
set_option maxRecDepth 100000 in
set_option maxHeartbeats 1000000 in
theorem faultsFault_any (v : Value) (n : Nat) (ss : List ByteArray) (fv : Value) (fs : List (Int × List Int)) (w : World) (hr : Rd w 1 v n (ss.map .string)) (hsz : szOk ss) (hf : RdF w fv fs) (hlim : fs.length ≤ 20000) :
    Calls Tryz.prog 94 #[v, fv] w fun e w' => e = .returned (.int .i64 (if tfault ss = 0 then fsL ss.length fs else tfault ss)) ∧ Below w.heap.size w w' := by
  have hl : ss.length = n := by have := hr.len; simpa using this
  have HR := Lib.hid hr
  obtain ⟨A, c, rfl, h1, h2, h3, h4⟩ := hr
  obtain ⟨A2, c2, rfl, f1, f2, f3⟩ := hf
  clear h3 h4
  by_cases ht : tfault ss = 0
  · have HX : Hid ((if tfault ss = 0 then fsL ss.length fs else tfault ss) = fsL ss.length (fs.drop 0)) := if_pos ht
    generalize (if tfault ss = 0 then fsL ss.length fs else tfault ss) = res at *
    have HT := Lib.hid ht
    clear ht
    subst hl
    go_enter Tryz.func94, Tryz.ntmps94
    go_wp2_with fail
    refine (CheckTest_any _ _ ss w HR.out hsz).mono ?_
    rintro e w1 ⟨rfl, hb1⟩
    rw [HT.out]
    go_wp2_with fail
    go_loopw [16] (fun i wr => ∃ k : Nat, k ≤ fs.length ∧ i = .int .i64 k ∧ Hid (res = fsL ss.length (fs.drop k)) ∧ Below w.heap.size w wr) (fun i _ => fs.length - (intOf i).toNat)
    case atStart => exact ⟨0, by omega, rfl, HX, hb1⟩
    case round =>
      obtain ⟨k, hk, rfl, HK, hbel⟩ := hrel
      clear HX
      by_cases hlt : k < fs.length
      · obtain ⟨b2, off2, rfl, hf2⟩ := f3 (by omega)
        obtain ⟨f, hfk⟩ : ∃ f, fs[k]? = some f := ⟨fs[k]'(by omega), List.getElem?_eq_getElem _⟩
        obtain ⟨nv, g1, g2, g3⟩ := hf2 k f hfk
        have g1' := cell_below hbel _ _ g1
        have g2' := cell_below hbel _ _ g2
        have G3 := Lib.hid g3
        obtain ⟨A3, c3, rfl, _, _, _, _⟩ := g3
        have HU : Hid (res = if ffault ss.length f.1 f.2 = 0 then fsL ss.length (fs.drop (k + 1)) else ffault ss.length f.1 f.2) := by show res = _; rw [HK.out, drop_at hfk, fsL]
        have hbw : Below w.heap.size w (wr.alloc (.cells #[.int .i64 f.1, .slice A3 f.2.length c3] 60)) := hbel.alloc hbel.size _
        have HFV : Hid (FV (wr.alloc (.cells #[.int .i64 f.1, .slice A3 f.2.length c3] 60)) (.agg #[.int .i64 f.1, .slice A3 f.2.length c3]) f.1 f.2) := ⟨_, rfl, G3.out.below hbw⟩
        clear hfk g1 g2 HK
        by_cases h0 : ffault ss.length f.1 f.2 = 0
        · have HU2 : Hid (res = fsL ss.length (fs.drop (k + 1))) := by show res = _; rw [HU.out, if_pos h0]
          have HZ := Lib.hid h0
          clear h0 HU
          go_wp2_with fail
          refine (CheckFault_any _ _ _ _ _ HFV.out).mono ?_
          rintro e w3 ⟨rfl, hb3⟩
          rw [HZ.out]
          go_wp2_with fail
          go_roundw
          case rel => exact ⟨k + 1, by omega, by go_num, HU2, hbw.trans (hb3.mono (by have := hbw.size; exact this))⟩
          case measure => simp [intOf]; omega
        · have HU2 : Hid (res = ffault ss.length f.1 f.2) := by show res = _; rw [HU.out, if_neg h0]
          have e0 : (ffault ss.length f.1 f.2 == 0) = false := beq_eq_false_iff_ne.2 h0
          clear HU
          go_wp2_with fail
          refine (CheckFault_any _ _ _ _ _ HFV.out).mono ?_
          rintro e w3 ⟨rfl, hb3⟩
          generalize ffault ss.length f.1 f.2 = r at *
          go_wp2_with fail
          go_ret
          exact ⟨ret_int HU2.out.symm, hbw.trans (hb3.mono (by have := hbw.size; exact this))⟩
      · obtain rfl : k = fs.length := by omega
        have HZ : Hid (res = 0) := by show res = 0; rw [HK.out, List.drop_length]; rfl
        go_wp2_with fail
        go_ret
        exact ⟨ret_int HZ.out.symm, hbel⟩
  · have HX : Hid ((if tfault ss = 0 then fsL ss.length fs else tfault ss) = tfault ss) := if_neg ht
    have e0 : (tfault ss == 0) = false := beq_eq_false_iff_ne.2 ht
    generalize (if tfault ss = 0 then fsL ss.length fs else tfault ss) = res at *
    clear f3
    go_enter Tryz.func94, Tryz.ntmps94
    go_wp2_with fail
    refine (CheckTest_any _ _ ss w HR.out hsz).mono ?_
    rintro e w1 ⟨rfl, hb1⟩
    generalize tfault ss = r at *
    go_wp2_with fail
    go_ret
    exact ⟨ret_int HX.out.symm, hb1⟩
theorem manyFault_any (v : Value) (n : Nat) (ss : List ByteArray) (fv : Value) (fs : List (Int × List Int)) (w : World) (hr : Rd w 1 v n (ss.map .string)) (hsz : szOk ss) (hf : RdF w fv fs) :
    Calls Tryz.prog 56 #[v, fv] w fun e w' => e = .returned (.int .i64 (lfault ss fs)) ∧ Below w.heap.size w w' := by
  have HR := Lib.hid hr
  have HF := Lib.hid hf
  obtain ⟨A2, c2, rfl, f1, f2, f3⟩ := hf
  clear f3 hr
  by_cases ht : tfault ss = 0
  · have HT := Lib.hid ht
    by_cases hbig : 20000 < fs.length
    · have HX : Hid (lfault ss fs = 2) := by show _ = _; rw [lfault, if_pos ht, if_pos hbig]
      clear ht
      go_enter Tryz.func56, Tryz.ntmps56
      go_wp2_with fail
      refine (CheckTest_any _ _ ss w HR.out hsz).mono ?_
      rintro e w1 ⟨rfl, hb1⟩
      rw [HT.out]
      go_wp2_with fail
      go_ret
      exact ⟨ret_int HX.out.symm, hb1⟩
    · have HX : Hid (lfault ss fs = if tfault ss = 0 then fsL ss.length fs else tfault ss) := by show _ = _; rw [lfault, if_pos ht, if_pos ht, if_neg hbig]
      clear ht
      go_enter Tryz.func56, Tryz.ntmps56
      go_wp2_with fail
      refine (CheckTest_any _ _ ss w HR.out hsz).mono ?_
      rintro e w1 ⟨rfl, hb1⟩
      rw [HT.out]
      go_wp2_with fail
      refine (faultsFault_any _ _ ss _ fs _ (HR.out.below hb1) hsz (HF.out.below hb1) (by omega)).mono ?_
      rintro e w2 ⟨rfl, hb2⟩
      rw [← HX.out]
      go_wp2_with fail
      go_ret
      exact ⟨rfl, hb1.trans (hb2.mono hb1.size)⟩
  · have HX : Hid (lfault ss fs = tfault ss) := by show _ = _; rw [lfault, if_neg ht]
    have e0 : (tfault ss == 0) = false := beq_eq_false_iff_ne.2 ht
    go_enter Tryz.func56, Tryz.ntmps56
    go_wp2_with fail
    refine (CheckTest_any _ _ ss w HR.out hsz).mono ?_
    rintro e w1 ⟨rfl, hb1⟩
    generalize tfault ss = r at *
    go_wp2_with fail
    go_ret
    exact ⟨ret_int HX.out.symm, hb1⟩
theorem listFault_any (v : Value) (n : Nat) (ss : List ByteArray) (fv : Value) (fs : List (Int × List Int)) (w : World) (hr : Rd w 1 v n (ss.map .string)) (hsz : szOk ss) (hf : RdF w fv fs) :
    Calls Tryz.prog 13 #[v, fv] w fun e w' => e = .returned (.int .i64 (lfault ss fs)) ∧ Below w.heap.size w w' := by
  have hl : ss.length = n := by have := hr.len; simpa using this
  have HR := Lib.hid hr
  have HF := Lib.hid hf
  obtain ⟨A, c, rfl, h1, h2, h3, h4⟩ := hr
  clear h3 h4 hf
  by_cases ht : tfault ss = 0
  · have HT := Lib.hid ht
    have HX : Hid (lfault ss fs = if 20000 < fs.length then 2 else fsL ss.length fs) := by show _ = _; rw [lfault, if_pos ht]
    clear ht
    subst hl
    go_enter Tryz.func13, Tryz.ntmps13
    go_wp2_with fail
    refine (TestFault_any _ _ ss w HR.out hsz).mono ?_
    rintro e w1 ⟨rfl, hb1⟩
    rw [HT.out]
    go_wp2_with fail
    refine (FaultsFault_any _ _ fs _ (HF.out.below hb1)).mono ?_
    rintro e w2 ⟨rfl, hb2⟩
    rw [← HX.out]
    go_wp2_with fail
    go_ret
    exact ⟨rfl, hb1.trans (hb2.mono hb1.size)⟩
  · have HX : Hid (lfault ss fs = tfault ss) := by show _ = _; rw [lfault, if_neg ht]
    have e0 : (tfault ss == 0) = false := beq_eq_false_iff_ne.2 ht
    go_enter Tryz.func13, Tryz.ntmps13
    go_wp2_with fail
    refine (TestFault_any _ _ ss w HR.out hsz).mono ?_
    rintro e w1 ⟨rfl, hb1⟩
    generalize tfault ss = r at *
    go_wp2_with fail
    go_ret
    exact ⟨ret_int HX.out.symm, hb1⟩
end Go.Proofs.YtedpnjbbcfiheaaGreatDoor

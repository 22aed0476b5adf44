/- Walk of FaultFault, the reference of CheckFault. -/
import Derived.Test.YtedpnjbbcfiheaaGreatDoorW9
import Derived.Test.YtedpnjbbcfiheaaGreatDoorX2
import Derived.Shelf.Abstract
set_option linter.unusedVariables false
namespace Go.Proofs.YtedpnjbbcfiheaaGreatDoor
open Go.RowKit Go.Sc
theorem FFclos_any (n nets : Int) (g : Nat) (W : World) (hc : W.cell? ⟨g, 0, none⟩ = some (.int .i64 nets)) (h1 : 1 ≤ nets) (h2 : nets ≤ 100) :
    Calls Tryz.prog 131 #[.int .i64 n, .pointer (some ⟨g, 0, none⟩)] W fun e w' => e = .returned (.bool (outB n 0 (nets - 1))) ∧ W = w' := by
  go_enter Tryz.func131, Tryz.ntmps131
  go_wp2_with (go_at_call 79; refine (in_any _ _ _ _).mono ?_; rintro e w' ⟨rfl, rfl⟩)
  go_ret
  exact ⟨ret_bool (by simp), rfl⟩
set_option maxRecDepth 100000 in
set_option maxHeartbeats 2000000 in
theorem FaultFault_any (nets k : Int) (fv : Value) (ns : List Int) (w : World) (hf : FV w fv k ns) :
    Calls Tryz.prog 87 #[.int .i64 nets, fv] w fun e w' => e = .returned (.int .i64 (ffault nets k ns)) ∧ Below w.heap.size w w' := by
  obtain ⟨nv, rfl, hr⟩ := hf
  obtain ⟨A, c, rfl, h1, h2, h3, h4⟩ := hr
  have hbl : Below w.heap.size w ((w.alloc (.cells #[.int .i64 nets] 3)).alloc (.cells #[.int .i64 k, .slice A ns.length c] 60)) := ((Below.refl _ _).alloc (Nat.le_refl _) _).alloc (by simp) _
  have HF : Hid (ffault nets k ns = ffault nets k ns) := rfl
  cases o1 : outB nets 1 100
  case true =>
    have HX : Hid (ffault nets k ns = 1) := by show ffault nets k ns = 1; simp [ffault, o1]
    go_enter Tryz.func87, Tryz.ntmps87
    go_wp2_with (go_at_call 79; refine (in_any _ _ _ _).mono ?_; rintro e w' ⟨rfl, rfl⟩)
    go_ret
    exact ⟨ret_int HX.out.symm, hbl⟩
  case false =>
  cases o2 : outB k 1 6
  case true =>
    have HX : Hid (ffault nets k ns = 4) := by show ffault nets k ns = 4; simp [ffault, o1, o2]
    go_enter Tryz.func87, Tryz.ntmps87
    go_wp2_with (go_at_call 79; refine (in_any _ _ _ _).mono ?_; rintro e w' ⟨rfl, rfl⟩)
    go_ret
    exact ⟨ret_int HX.out.symm, hbl⟩
  case false =>
  by_cases hm0 : ns.length = 0
  · have HX : Hid (ffault nets k ns = 8) := by show ffault nets k ns = 8; simp [ffault, o1, o2, hm0]
    clear h3 h4
    generalize ns.length = m at *
    subst hm0
    go_enter Tryz.func87, Tryz.ntmps87
    go_wp2_with (go_at_call 79; refine (in_any _ _ _ _).mono ?_; rintro e w' ⟨rfl, rfl⟩)
    go_ret
    exact ⟨ret_int HX.out.symm, hbl⟩
  by_cases hm6 : 6 < ns.length
  · have HX : Hid (ffault nets k ns = 2) := by show ffault nets k ns = 2; simp [ffault, o1, o2, hm0, hm6]
    clear h3 h4
    generalize ns.length = m at *
    have e0 : ((m : Int) == 0) = false := by simp; omega
    go_enter Tryz.func87, Tryz.ntmps87
    go_wp2_with (go_at_call 79; refine (in_any _ _ _ _).mono ?_; rintro e w' ⟨rfl, rfl⟩)
    go_ret
    exact ⟨ret_int HX.out.symm, hbl⟩
  obtain ⟨b, off, rfl, hc⟩ := h4 (by omega)
  have hn := (outB_false.1 o1)
  obtain ⟨hn1, hn2⟩ := hn
  have HX : Hid (ffault nets k ns = if (ns.any fun n => outB n 0 (nets - 1)) = true then 1
    else if (!outB k 3 5) ≠ decide (1 < ns.length) then 3
    else if risB (risOf k ns) = false then 7
    else if k = 5 ∧ conB (ns.drop 1) (ns[0]?.getD 0) = true then 6 else 0) := by show _ = _; simp [ffault, o1, o2, hm0, hm6]
  have HC : Hid (∀ j, j < ns.length → w.cell? ⟨b, off + j, none⟩ = some (.int .i64 (ns[j]?.getD 0))) := fun j hj => hc j _ (getD_map_int _ _ _ hj)
  have HT : Hid (∀ j, j < ns.length → ns.take (j + 1) = ns.take j ++ [ns[j]?.getD 0]) := fun j hj => by
    rw [List.take_succ_eq_append_getElem hj, List.getElem?_eq_getElem hj]; rfl
  have HTA : Hid (∀ m, m = ns.length → ns.take m = ns) := fun m h => by rw [h]; exact List.take_length
  have hne : ns.length ≠ 0 := hm0
  have HO : Hid (outB nets 1 100 = false ∧ outB k 1 6 = false) := ⟨o1, o2⟩
  have hm00 : 0 < ns.length := by omega
  have e0 : ((ns.length : Int) == 0) = false := beq_eq_false_iff_ne.2 (by omega)
  have hblt : b < w.heap.size := World.block_lt_of_cell? _ _ (HC.out 0 hm00)
  have HCW : Hid (∀ j, j < ns.length → ((w.alloc (.cells #[.int .i64 nets] 3)).alloc (.cells #[.int .i64 k, .slice (some ⟨b, off, none⟩) ns.length c] 60)).cell? ⟨b, off + j, none⟩ = some (.int .i64 (ns[j]?.getD 0))) := fun j hj => by
    rw [World.cell?_alloc_past _ _ _ (by simp; omega), World.cell?_alloc_past _ _ _ hblt]; exact HC.out j hj
  clear h3 h4 hc hm0 hne
  go_enter Tryz.func87, Tryz.ntmps87
  generalize hml : ns.length = m at *
  have HML := Lib.hid hml
  clear hml
  have hHE : ∀ args W, (callFunc 131 args).run Tryz.prog W = .ok (.enter 131 args) W := enters_of Tryz.func131 (by kernel_rfl) rfl
  have HR : Hid (Rd ((w.alloc (.cells #[.int .i64 nets] 3)).alloc (.cells #[.int .i64 k, .slice (some ⟨b, off, none⟩) m c] 60)) 1 (.slice (some ⟨b, off, none⟩) m c) m (ns.map (.int .i64))) := by
    refine ⟨_, c, rfl, h1, h2, by simp [HML.out], fun _ => ⟨b, off, rfl, fun i u hu => ?_⟩⟩
    have hi : i < ns.length := by
      rcases Nat.lt_or_ge i ns.length with h | h
      · exact h
      · rw [List.getElem?_eq_none (by simpa using h)] at hu; cases hu
    rw [getD_map_int _ _ _ hi] at hu
    rw [← Option.some.inj hu]
    exact HCW.out i (by rw [← HML.out]; exact hi)
  have hcn : ((w.alloc (.cells #[.int .i64 nets] 3)).alloc (.cells #[.int .i64 k, .slice (some ⟨b, off, none⟩) m c] 60)).cell? ⟨w.heap.size, 0, none⟩ = some (.int .i64 nets) := by
    rw [World.cell?_alloc_past _ _ _ (by simp), World.cell?_alloc_at _ _ _ _ rfl]; rfl
  have hk0 : ((w.alloc (.cells #[.int .i64 nets] 3)).alloc (.cells #[.int .i64 k, .slice (some ⟨b, off, none⟩) m c] 60)).cell? ⟨w.heap.size + 1, 0, none⟩ = some (.int .i64 k) := by
    rw [World.cell?_alloc_at _ _ _ _ (by simp)]; rfl
  have hk1 : ((w.alloc (.cells #[.int .i64 nets] 3)).alloc (.cells #[.int .i64 k, .slice (some ⟨b, off, none⟩) m c] 60)).cell? ⟨w.heap.size + 1, 1, none⟩ = some (.slice (some ⟨b, off, none⟩) m c) := by
    rw [World.cell?_alloc_at _ _ _ _ (by simp)]; rfl
  have HANS : Hid (Ans Tryz.prog ((w.alloc (.cells #[.int .i64 nets] 3)).alloc (.cells #[.int .i64 k, .slice (some ⟨b, off, none⟩) m c] 60)) 131 #[.pointer (some ⟨w.heap.size, 0, none⟩)] (.int .i64) (fun n => outB n 0 (nets - 1)) ns) := by
    intro W' hb' x hx
    exact (FFclos_any x nets w.heap.size W' (cell_below hb' _ _ hcn) hn1 hn2).mono fun _ _ ⟨e1, e2⟩ => ⟨e1, e2 ▸ Below.refl _ _⟩
  have HHE := Lib.hid hHE
  clear hHE
  go_wp2_with (go_at_call 79; refine (in_any _ _ _ _).mono ?_; rintro e w' ⟨rfl, rfl⟩)
  refine (ContainsFunc_any _ m ns _ _ (fun n => outB n 0 (nets - 1)) _ HR.out (by omega) HANS.out HHE.out).mono ?_
  rintro e w2 ⟨rfl, hb2⟩
  have k0 := cell_below hb2 _ _ hk0
  have k1 := cell_below hb2 _ _ hk1
  have hbl2 : Below w.heap.size w w2 := hbl.trans (hb2.mono (by simp; omega))
  have HCW2 : Hid (∀ i, i < m → w2.cell? ⟨b, off + i, none⟩ = some (.int .i64 (ns[i]?.getD 0))) := fun i hi => cell_below hb2 _ _ (HCW.out i hi)
  clear hk0 hk1 hcn HCW
  cases hany : anyF (fun n => outB n 0 (nets - 1)) ns
  case true =>
    have HX3 : Hid (ffault nets k ns = 1) := by show _ = _; rw [HX.out, if_pos (show (ns.any fun n => outB n 0 (nets - 1)) = true from hany)]
    go_wp2_with fail
    go_ret
    exact ⟨ret_int HX3.out.symm, hbl2⟩
  case false =>
  obtain ⟨j, rfl⟩ : ∃ j, j = m := ⟨m, rfl⟩
  have HX2 : Hid (ffault nets k ns = if (!outB k 3 5) ≠ decide (1 < j) then 3
    else if risB (risOf k ns) = false then 7
    else if k = 5 ∧ conB (ns.drop 1) (ns[0]?.getD 0) = true then 6 else 0) := by
    have ha : ¬ (ns.any fun n => outB n 0 (nets - 1)) = true := by rw [show (ns.any fun n => outB n 0 (nets - 1)) = false from hany]; decide
    show _ = _
    rw [HX.out, if_neg ha]
  clear HX
  have HK5 : Hid (k = 5 → outB k 3 5 = false) := fun e => by rw [e]; rfl
  by_cases hne : (!outB k 3 5) ≠ decide (1 < j)
  · have HX3 : Hid (ffault nets k ns = 3) := by show _ = _; rw [HX2.out, if_pos hne]
    have hb : ((!outB k 3 5) == decide (1 < (j : Int))) = false := by
      have : decide (1 < j) = decide (1 < (j : Int)) := decide_eq_decide.2 (by omega)
      rw [← this]; exact beq_eq_false_iff_ne.2 hne
    clear hne
    go_wp2_with fail
    go_quiet ((go_at_call 80; exact quiet_left (short_any _ _)))
    go_wp2_with fail
    go_ret
    exact ⟨ret_int HX3.out.symm, pw_below_drewN hbl2 _⟩
  · have HX3 : Hid (ffault nets k ns = if risB (risOf k ns) = false then 7
      else if k = 5 ∧ conB (ns.drop 1) (ns[0]?.getD 0) = true then 6 else 0) := by show _ = _; rw [HX2.out, if_neg hne]
    have hb : ((!outB k 3 5) == decide (1 < (j : Int))) = true := by
      have : decide (1 < j) = decide (1 < (j : Int)) := decide_eq_decide.2 (by omega)
      rw [← this]; exact beq_iff_eq.2 (Decidable.not_not.1 hne)
    have HSH : Hid ((!outB k 3 5) = decide (1 < j)) := by show (!outB k 3 5) = decide (1 < j); exact Decidable.not_not.1 hne
    clear hne
    go_wp2_with fail
    go_quiet ((go_at_call 80; exact quiet_left (short_any _ _)))
    go_upto_if 44 with fail
    obtain ⟨W, hW⟩ : ∃ W, W = w2.drewN nq := ⟨_, rfl⟩
    have hbW : Below w.heap.size w W := by rw [hW]; exact pw_below_drewN hbl2 _
    have HCW' : Hid (∀ i, i < j → W.cell? ⟨b, off + i, none⟩ = some (.int .i64 (ns[i]?.getD 0))) := fun i hi => by rw [hW]; exact HCW2.out i hi
    have k0' : W.cell? ⟨w.heap.size + 1, 0, none⟩ = some (.int .i64 k) := by rw [hW]; exact k0
    have k1' : W.cell? ⟨w.heap.size + 1, 1, none⟩ = some (.slice (some ⟨b, off, none⟩) j c) := by rw [hW]; exact k1
    have k2 : W.cell? ⟨b, off, none⟩ = some (.int .i64 (ns[0]?.getD 0)) := by have := HCW'.out 0 hm00; simpa using this
    rw [← hW]
    clear hW hb HCW2 k0 k1
    go_cut [5] (fun v wx => RisV W b (risOf k ns) v ∧ wx = W)
    case first =>
      by_cases hk5 : k = 5
      · have h1j : 1 < j := by have := HSH.out; rw [HK5.out hk5] at this; simpa using this
        have hc1 : c ≠ 1 := by omega
        have b5 : (k == 5) = true := by simp [hk5]
        have HR : Hid (RisV W b (risOf k ns) (.slice (some ⟨b, off + 1, none⟩) (j - 1) (c - 1))) := by
          show RisV _ _ _ _
          rw [risOf, if_pos hk5]
          refine ⟨off + 1, c - 1, by rw [List.length_drop, HML.out], by rw [List.length_drop, HML.out]; omega, by omega, fun i hi => ?_⟩
          rw [List.length_drop, HML.out] at hi
          have := HCW'.out (i + 1) (by omega)
          rw [List.getElem?_drop, show off + 1 + i = off + (i + 1) by omega, show 1 + i = i + 1 by omega]
          exact this
        clear hk5
        go_wp2_with fail
        go_meet
        exact ⟨HR.out, rfl⟩
      · have b5 : (k == 5) = false := by simp [hk5]
        have HR : Hid (RisV W b (risOf k ns) (.slice (some ⟨b, off, none⟩) j c)) := by
          show RisV _ _ _ _
          rw [risOf, if_neg hk5]
          exact ⟨off, c, by rw [HML.out], by rw [HML.out]; exact h1, h2, fun i hi => HCW'.out i (by rw [← HML.out]; exact hi)⟩
        clear hk5
        go_wp2_with fail
        go_meet
        exact ⟨HR.out, rfl⟩
    case rest =>
      obtain ⟨hv, hwc⟩ := hcut
      rw [hwc]
      clear hwc
      have HX5 : Hid (∀ r, r = (risOf k ns) → ffault nets k ns = if risB r = false then 7 else if k = 5 ∧ conB (ns.drop 1) (ns[0]?.getD 0) = true then 6 else 0) := fun r h => by rw [h]; exact HX3.out
      have HRL : Hid ((risOf k ns).length ≤ 6) := by
        show (risOf k ns).length ≤ 6
        unfold risOf
        split
        · rw [List.length_drop, HML.out]; omega
        · rw [HML.out]; omega
      have HR5 : Hid (k = 5 → (risOf k ns) = ns.drop 1) := fun h => by rw [risOf, if_pos h]
      generalize (risOf k ns) = r at *
      obtain ⟨o, c', rfl, hrc1, hrc2, hcr⟩ := hv
      have HCR := Lib.hid hcr
      have hr6 := HRL.out
      have HX6 := Lib.hid (HX5.out r rfl)
      clear hcr HX5 HX3
      go_wp2_with fail
      go_loopw [6] (fun i wr => ∃ (i' q : Nat), 1 ≤ i' ∧ i' ≤ r.length + 1 ∧ i = .int .i64 i' ∧ Hid (risTo r i') ∧ wr = W.drewN q) (fun i _ => r.length + 1 - (intOf i).toNat)
      case atStart => exact ⟨1, 0, by omega, by omega, rfl, by intro j hj; have : j = 0 := by omega
                                                               subst this; rfl, rfl⟩
      case round =>
        obtain ⟨i, q, hi1, hi2, rfl, HRT, rfl⟩ := hrel
        by_cases hlt : i < r.length
        · have e1 := HCR.out i hlt
          have e2 : W.cell? ⟨b, o + (i - 1), none⟩ = some (.int .i64 (r[i - 1]?.getD 0)) := HCR.out (i - 1) (by omega)
          have HS : Hid (r[i - 1]?.getD 0 < r[i]?.getD 0 → risTo r (i + 1)) := risTo_succ HRT.out
          have HN : Hid (¬ r[i - 1]?.getD 0 < r[i]?.getD 0 → risB r = false) := risTo_no hi1 hlt
          generalize r[i]?.getD 0 = x at *
          generalize r[i - 1]?.getD 0 = y at *
          by_cases hxy : x ≤ y
          · go_wp2_with fail
            go_quiet (fail)
            go_wp2_with fail
            go_ret
            exact ⟨ret_int (by rw [HX6.out, if_pos (HN.out (by omega))]), pw_below_drewN (pw_below_drewN hbW _) _⟩
          · go_wp2_with fail
            go_quiet (fail)
            go_wp2_with fail
            go_roundw
            case rel => exact ⟨i + 1, _, by omega, by omega, by go_num, HS.out (by omega), rfl⟩
            case measure => simp [intOf]; omega
        · have HX7 : Hid (ffault nets k ns = if k = 5 ∧ conB (ns.drop 1) (ns[0]?.getD 0) = true then 6 else 0) := by
            show _ = _
            rw [HX6.out, if_neg (by rw [risTo_all HRT.out (by omega)]; decide)]
          generalize ns[0]?.getD 0 = n0 at *
          by_cases hk5 : k = 5
          · have b5 : (k == 5) = true := by simp [hk5]
            have HX8 : Hid (ffault nets k ns = if conB r n0 = true then 6 else 0) := by
              show _ = _
              rw [HX7.out, HR5.out hk5]
              by_cases hcb : conB (ns.drop 1) n0 = true
              · rw [if_pos hcb, if_pos ⟨hk5, hcb⟩]
              · rw [if_neg hcb, if_neg (fun h => hcb h.2)]
            clear hk5 HX7
            have HRD : Hid (Rd (W.drewN q) 1 (.slice (some ⟨b, o, none⟩) r.length c') r.length (r.map (.int .i64))) := by
              refine ⟨_, c', rfl, hrc1, hrc2, by simp, fun _ => ⟨b, o, rfl, fun i u hu => ?_⟩⟩
              have hi : i < r.length := by rcases Nat.lt_or_ge i r.length with h | h; · exact h
                                           · rw [List.getElem?_eq_none (by simpa using h)] at hu; cases hu
              rw [getD_map_int _ _ _ hi] at hu
              rw [← Option.some.inj hu]
              exact HCR.out i hi
            cases hcb : conB r n0
            · go_wp2_with (go_at_call 44; refine (Contains_any _ _ r _ _ HRD.out (by omega)).mono ?_; rintro e w' ⟨rfl, rfl⟩)
              go_ret
              exact ⟨ret_int (by rw [HX8.out, hcb]; rfl), pw_below_drewN hbW _⟩
            · go_wp2_with (go_at_call 44; refine (Contains_any _ _ r _ _ HRD.out (by omega)).mono ?_; rintro e w' ⟨rfl, rfl⟩)
              go_ret
              exact ⟨ret_int (by rw [HX8.out, hcb]; rfl), pw_below_drewN hbW _⟩
          · have b5 : (k == 5) = false := by simp [hk5]
            have HX8 : Hid (ffault nets k ns = 0) := by show _ = _; rw [HX7.out, if_neg (fun h => hk5 h.1)]
            clear hk5 HX7
            go_wp2_with fail
            go_ret
            exact ⟨ret_int HX8.out.symm, pw_below_drewN hbW _⟩
end Go.Proofs.YtedpnjbbcfiheaaGreatDoor

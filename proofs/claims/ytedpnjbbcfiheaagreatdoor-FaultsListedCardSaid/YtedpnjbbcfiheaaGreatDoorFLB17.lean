import Derived.Test.YtedpnjbbcfiheaaGreatDoorFLB16
set_option linter.unusedSimpArgs false
set_option linter.unusedSectionVars false
set_option linter.unusedVariables false
/- Walks of CurveOf; Curve of wrong arguments. -/
set_option linter.unusedVariables false
namespace Go.Proofs.YtedpnjbbcfiheaaGreatDoor
open Go.RowKit Go.Sc
theorem Curve_bad (v : Value) (n : Nat) (ss : List ByteArray) (fv : Value) (fs : List (Int × List Int)) (w : World) (hr : Rd w 1 v n (ss.map .string)) (hsz : szOk ss) (hf : RdF w fv fs) (h0 : lfault ss fs ≠ 0) :
    Calls Tryz.prog 29 #[v, fv] w fun e w' => e = .returned (.tuple #[.slice none 0 0, .int .i64 (lfault ss fs)]) ∧ Below w.heap.size w w' := by
  have HR := Lib.hid hr
  have HF := Lib.hid hf
  have e0 : (lfault ss fs == 0) = false := beq_eq_false_iff_ne.2 h0
  clear hr hf h0
  go_enter Tryz.func29, Tryz.ntmps29
  go_wp2_with fail
  refine (manyFault_any _ _ ss _ fs w HR.out hsz HF.out).mono ?_
  rintro e w1 ⟨rfl, hb1⟩
  go_wp2_with fail
  go_ret2
  exact ⟨rfl, hb1⟩
def hitC (ss : List ByteArray) (j : Nat) (f : Int × List Int) : Bool := decide ((catL ss f.1 f.2).length ≠ 0) && decide ((catL ss f.1 f.2)[0]?.getD 0 ≤ (j : Int))
def cntC (ss : List ByteArray) (fs : List (Int × List Int)) (k j : Nat) : Nat := ((fs.take k).filter (hitC ss j)).length
theorem cntC_succ (ss : List ByteArray) (fs : List (Int × List Int)) (k j : Nat) (f : Int × List Int) (h : fs[k]? = some f) : cntC ss fs (k + 1) j = cntC ss fs k j + (if hitC ss j f = true then 1 else 0) := by
  obtain ⟨hk, rfl⟩ := List.getElem?_eq_some_iff.1 h
  unfold cntC
  rw [List.take_succ_eq_append_getElem hk, List.filter_append, List.length_append]
  congr 1
  by_cases hc : hitC ss j fs[k] = true
  · rw [if_pos hc, List.filter_cons, if_pos hc]; rfl
  · rw [if_neg hc, List.filter_cons, if_neg hc]; rfl
theorem cntC_le (ss : List ByteArray) (fs : List (Int × List Int)) (k j : Nat) : cntC ss fs k j ≤ k := by
  unfold cntC
  exact Nat.le_trans (List.length_filter_le _ _) (by simp; omega)
theorem cat_first (ss : List ByteArray) (k : Int) (ns : List Int) : (0 : Int) ≤ (catL ss k ns)[0]?.getD 0 ∧ ((catL ss k ns).length ≠ 0 → (catL ss k ns)[0]?.getD 0 < ((ss.headD ByteArray.empty).size : Int)) := by
  have key : ∀ x ∈ catL ss k ns, 0 ≤ x ∧ x < (ss.headD ByteArray.empty).size := by
    intro x hx
    unfold catL hitL at hx
    obtain ⟨i, hi, rfl⟩ := List.mem_map.1 hx
    have := List.mem_range.1 (List.mem_filter.1 hi).1
    exact ⟨Int.natCast_nonneg _, Int.ofNat_lt.2 this⟩
  cases h : catL ss k ns with
  | nil => simp
  | cons x l =>
    have := key x (by rw [h]; exact List.mem_cons_self ..)
    exact ⟨this.1, fun _ => this.2⟩
set_option maxRecDepth 100000 in
set_option maxHeartbeats 2000000 in
theorem CurveOf_any (tv fv : Value) (n : Nat) (ss : List ByteArray) (fs : List (Int × List Int)) (z : Nat) (w : World) (hr : Rd w 1 tv n (ss.map .string)) (hf : RdF w fv fs) (hok : okTest ss) (hz : ∀ s ∈ ss, s.size = z) (hzz : (ss.headD ByteArray.empty).size = z) (hn : n ≤ 100) (hn1 : 1 ≤ n) (hz64 : z ≤ 64)
    (hfo : ∀ f ∈ fs, FOk n f.1 f.2) (hfl : fs.length ≤ 20000) :
    Calls Tryz.prog 34 #[tv, fv] w fun e w' => ∃ v', e = .returned v' ∧ w'.ownsRow w.heap.size 3 1 v' z ((rowR (cntC ss fs fs.length) z).map (.int .i64)) ∧ Below w.heap.size w w' := by
  have hl : ss.length = n := by have := hr.len; simpa using this
  have HR := Lib.hid hr
  have HOK := Lib.hid hok
  have HZ := Lib.hid hz
  have HFO := Lib.hid hfo
  have HZZ := Lib.hid hzz
  obtain ⟨A2, c2, rfl, f1, f2, f3⟩ := hf
  have HF3 := Lib.hid f3
  obtain ⟨A, c, rfl, h1, h2, h3, h4⟩ := hr
  obtain ⟨b, off, rfl, hc⟩ := h4 (by omega)
  have hc0 := head_cell (by omega) hc
  obtain ⟨i8, hi8, hz8, hs8, hb8⟩ := info_parts info3
  have HI := Lib.hid hi8
  have HZ8 := Lib.hid hz8
  have HS8 := Lib.hid hs8
  have HB8 := Lib.hid hb8
  generalize ss.headD ByteArray.empty = s0 at hc0 hzz
  clear h3 h4 hok hz hfo f3 hc hl hi8 hz8 hs8 hb8
  obtain rfl : s0.size = z := hzz
  have hsw := Nat.le_refl w.heap.size
  go_enter Tryz.func34, Tryz.ntmps34
  go_wp2_with (at_make; refine wpList_make_full _ rfl _ _ 22 rfl w.heap.size 3 i8 (.int .i64 0) 1 Tryz.underlying22 HI.out HZ8.out HS8.out .i64 .i64 _ _ s0.size rfl rfl rfl rfl (by rw [HB8.out]; omega) (by unfold maxLen; omega) hsw ?_; intro w2 hown2 hg2)
  rw [made_int] at hown2
  have hb2 : Below w.heap.size w w2 := below_grown0 hg2
  generalize hG : w.heap.size = g at *
  have HG := Lib.hid hG
  clear hG hg2
  go_loopw [18] (fun i wr => ∃ k : Nat, k ≤ fs.length ∧ i = .int .i64 k ∧ wr.ownsRow g 3 1 (.slice (some ⟨g, 0, none⟩) s0.size s0.size) s0.size ((rowR (cntC ss fs k) s0.size).map (.int .i64)) ∧ Below g w wr) (fun i _ => fs.length - (intOf i).toNat)
  case atStart => exact ⟨0, by omega, rfl, by rw [show rowR (cntC ss fs 0) s0.size = rowR (fun _ => 0) s0.size from rowR_congr fun j _ => by simp [cntC]]; exact hown2, hb2⟩
  case round =>
    obtain ⟨k, hk, rfl, hown, hbel⟩ := hrel
    by_cases hlt : k < fs.length
    · obtain ⟨b2, off2, rfl, hf2⟩ := HF3.out (by omega)
      obtain ⟨f, hfk⟩ : ∃ f, fs[k]? = some f := ⟨fs[k]'(by omega), List.getElem?_eq_getElem _⟩
      obtain ⟨nv, g1, g2, g3⟩ := hf2 k f hfk
      have hbelw : Below w.heap.size w wr := by rw [HG.out]; exact hbel
      have g1' := cell_below hbelw _ _ g1
      have g2' := cell_below hbelw _ _ g2
      have G3 := Lib.hid g3
      obtain ⟨A3, c3, rfl, _, _, _, _⟩ := g3
      have HCS : Hid (∀ j, cntC ss fs (k + 1) j = cntC ss fs k j + (if hitC ss j f = true then 1 else 0)) := fun j => cntC_succ ss fs k j f hfk
      have HCL : Hid (∀ j, cntC ss fs k j ≤ k) := fun j => cntC_le ss fs k j
      have hbw : Below wr.heap.size wr (wr.alloc (.cells #[.int .i64 f.1, .slice A3 f.2.length c3] 60)) := (Below.refl _ _).alloc (Nat.le_refl _) _
      have k0 : (wr.alloc (.cells #[.int .i64 f.1, .slice A3 f.2.length c3] 60)).cell? ⟨wr.heap.size, 0, none⟩ = some (.int .i64 f.1) := by rw [World.cell?_alloc_at _ _ _ _ rfl]; rfl
      have k1 : (wr.alloc (.cells #[.int .i64 f.1, .slice A3 f.2.length c3] 60)).cell? ⟨wr.heap.size, 1, none⟩ = some (.slice A3 f.2.length c3) := by rw [World.cell?_alloc_at _ _ _ _ rfl]; rfl
      have hbe : Below w.heap.size w (wr.alloc (.cells #[.int .i64 f.1, .slice A3 f.2.length c3] 60)) := hbelw.alloc hbelw.size _
      have HFV : Hid (FV (wr.alloc (.cells #[.int .i64 f.1, .slice A3 f.2.length c3] 60)) (.agg #[.int .i64 f.1, .slice A3 f.2.length c3]) f.1 f.2) := ⟨_, rfl, G3.out.below hbe⟩
      have HFI := Lib.hid (FirstOf_any _ _ n ss f.1 f.2 s0.size _ (HR.out.below hbe) HFV.out HOK.out HZ.out hn hn1 hz64 (HFO.out f (List.mem_of_getElem? hfk)))
      have hbws : (wr.alloc (.cells #[.int .i64 f.1, .slice A3 f.2.length c3] 60)).heap.size = wr.heap.size + 1 := by simp
      have HHIT : Hid (∀ j : Nat, hitC ss j f = (decide ((catL ss f.1 f.2).length ≠ 0) && decide ((catL ss f.1 f.2)[0]?.getD 0 ≤ (j : Int)))) := fun j => rfl
      obtain ⟨x0, x1⟩ := cat_first ss f.1 f.2
      rw [HZZ.out] at x1
      clear hfk g1 g2 hf2 hbelw
      go_wp2_with fail
      refine HFI.out.mono ?_
      rintro e w3 ⟨rfl, hb3⟩
      have hbel3 : Below g w w3 := by rw [← HG.out]; exact hbe.trans (hb3.mono (by have := hbel.size; have := hbe.size; omega))
      have hown' := own_below hown (hbw.trans (hb3.mono (by omega)))
      generalize (catL ss f.1 f.2)[0]?.getD 0 = x at *
      generalize (catL ss f.1 f.2).length = q at *
      by_cases hq0 : q = 0
      · have hqd : decide (q ≠ 0) = false := by simp [hq0]
        rw [hqd]
        have HROW : Hid (rowR (cntC ss fs (k + 1)) s0.size = rowR (cntC ss fs k) s0.size) := rowR_congr fun j _ => by rw [HCS.out, HHIT.out, hqd]; simp
        clear hq0
        go_wp2_with fail
        go_roundw
        case rel => exact ⟨k + 1, by omega, by go_num, by rw [HROW.out]; exact hown', hbel3⟩
        case measure => simp [intOf]; omega
      · have hqd : decide (q ≠ 0) = true := by simp [hq0]
        rw [hqd]
        have x1' := x1 hq0
        obtain ⟨x, rfl⟩ := Int.eq_ofNat_of_zero_le x0
        have hxz : x < s0.size := by omega
        have HNEW : Hid (∀ j : Nat, cntC ss fs (k + 1) j = cntC ss fs k j + (if x ≤ j then 1 else 0)) := fun j => by
          rw [HCS.out, HHIT.out, hqd, Bool.true_and]
          by_cases h : x ≤ j
          · rw [if_pos h, if_pos (decide_eq_true (by omega))]
          · rw [if_neg h, if_neg (by simp; omega)]
        clear x1 hq0 x0 x1' hb3 hbe hbw
        obtain ⟨w5, hw5⟩ : ∃ w5, w5 = w3 := ⟨_, rfl⟩
        rw [← hw5] at hown' hbel3 ⊢
        clear hw5
        go_wp2_with fail
        go_loopw [10] (fun i wr => ∃ j : Nat, x ≤ j ∧ j ≤ s0.size ∧ i = .int .i64 j ∧ wr.ownsRow g 3 1 (.slice (some ⟨g, 0, none⟩) s0.size s0.size) s0.size ((rowR (fun i => if i < j then cntC ss fs (k + 1) i else cntC ss fs k i) s0.size).map (.int .i64)) ∧ Below g w wr) (fun i _ => s0.size - (intOf i).toNat)
        case atStart =>
          refine ⟨x, Nat.le_refl _, by omega, rfl, ?_, hbel3⟩
          rw [show rowR (fun i => if i < x then cntC ss fs (k + 1) i else cntC ss fs k i) s0.size = rowR (cntC ss fs k) s0.size from rowR_congr fun i _ => by
            by_cases h : i < x
            · rw [if_pos h, HNEW.out, if_neg (by omega)]; rfl
            · rw [if_neg h]]
          exact hown'
        case round =>
          obtain ⟨j, hxj, hj, rfl, hown, hbel⟩ := hrel
          by_cases hltj : j < s0.size
          · have hcl := HCL.out j
            have hcell := own_cell_int hown j hltj
            rw [rowR_get _ _ _ hltj, if_neg (Nat.lt_irrefl j)] at hcell
            have hfz := hown.frozenAt j
            have HE : Hid (cntC ss fs (k + 1) j = cntC ss fs k j + 1) := by show _ = _; rw [HNEW.out, if_pos hxj]
            have hset : rowR (fun i => if i < j + 1 then cntC ss fs (k + 1) i else cntC ss fs k i) s0.size = (rowR (fun i => if i < j then cntC ss fs (k + 1) i else cntC ss fs k i) s0.size).set j ((cntC ss fs (k + 1) j : Nat) : Int) := by
              rw [rowR_set]
              refine rowR_congr fun i _ => ?_
              by_cases h1 : i = j
              · subst h1; simp
              · by_cases h2 : i < j
                · simp [h2, show i < j + 1 by omega, h1]
                · simp [h2, show ¬ i < j + 1 by omega, h1]
            have HSET := Lib.hid hset
            clear hset
            generalize cntC ss fs k j = cj at *
            go_wp2_with fail
            go_roundw
            case rel => exact ⟨j + 1, by omega, by omega, by go_num, by rw [HSET.out, HE.out]; exact own_set_int hown j _, hbel.setCell (Nat.le_refl _) _⟩
            case measure => simp [intOf]; omega
          · obtain rfl : j = s0.size := by omega
            have HROW : Hid (rowR (fun i => if i < s0.size then cntC ss fs (k + 1) i else cntC ss fs k i) s0.size = rowR (cntC ss fs (k + 1)) s0.size) := rowR_congr fun i hi => by simp [hi]
            rw [HROW.out] at hown
            go_wp2_with fail
            go_roundw
            case rel => exact ⟨k + 1, by omega, by go_num, hown, hbel⟩
            case measure => simp [intOf]; omega
    · obtain rfl : k = fs.length := by omega
      go_wp2_with fail
      go_ret
      exact ⟨_, rfl, by rw [HG.out]; exact hown, by rw [HG.out]; exact hbel⟩
end Go.Proofs.YtedpnjbbcfiheaaGreatDoor

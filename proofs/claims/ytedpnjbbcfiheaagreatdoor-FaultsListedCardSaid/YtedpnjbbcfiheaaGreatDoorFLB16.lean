import Derived.Test.YtedpnjbbcfiheaaGreatDoorFLB14
import Derived.Test.YtedpnjbbcfiheaaGreatDoorFLB15
import Derived.OwnWalk
set_option linter.unusedSimpArgs false
set_option linter.unusedSectionVars false
set_option linter.unusedVariables false
/- Walks of Curve, CurveOf. -/
set_option linter.unusedVariables false
namespace Go.Proofs.YtedpnjbbcfiheaaGreatDoor
open Go.RowKit Go.Sc
def rowR (f : Nat → Nat) (z : Nat) : List Int := (List.range z).map fun j => (f j : Int)
theorem rowR_len (f : Nat → Nat) (z : Nat) : (rowR f z).length = z := by simp [rowR]
theorem rowR_get (f : Nat → Nat) (z j : Nat) (h : j < z) : (rowR f z)[j]?.getD 0 = (f j : Int) := by simp [rowR, h]
theorem rowR_set (f : Nat → Nat) (z i x : Nat) : (rowR f z).set i (x : Int) = rowR (fun j => if j = i then x else f j) z := by
  apply List.ext_getElem
  · simp [rowR]
  · intro j h1 h2
    simp only [rowR, List.getElem_set, List.getElem_map, List.getElem_range]
    by_cases h : i = j
    · subst h; simp
    · have : j ≠ i := fun e => h e.symm
      simp [h, this]
theorem rowR_congr {f g : Nat → Nat} {z : Nat} (h : ∀ j, j < z → f j = g j) : rowR f z = rowR g z := by
  unfold rowR
  exact List.map_congr_left fun j hj => by rw [h j (List.mem_range.1 hj)]
theorem made_int (n : Nat) : (madeCells (Value.int .i64 0).cells (n * 1)).toList = (rowR (fun _ => 0) n).map (.int .i64) := by
  unfold madeCells rowR
  apply List.ext_getElem
  · simp
  · intro i h1 h2
    simp [Value.cells, Nat.mod_one]
def cntM (ms : List Nat) (k j : Nat) : Nat := ((ms.take k).filter fun m => (m &&& onesN ((j : Int) + 1)) != 0).length
theorem cntM_succ (ms : List Nat) (k j : Nat) (h : k < ms.length) : cntM ms (k + 1) j = cntM ms k j + (if (ms[k]?.getD 0 &&& onesN ((j : Int) + 1)) != 0 then 1 else 0) := by
  unfold cntM
  rw [take_getD ms 0 k h, List.filter_append, List.length_append]
  congr 1
  by_cases hc : (ms[k]?.getD 0 &&& onesN ((j : Int) + 1)) != 0
  · rw [if_pos hc, List.filter_cons, if_pos hc]; rfl
  · rw [if_neg hc, List.filter_cons, if_neg hc]; rfl
theorem cntM_le (ms : List Nat) (k j : Nat) : cntM ms k j ≤ k := by
  unfold cntM
  exact Nat.le_trans (List.length_filter_le _ _) (by simp; omega)
set_option maxRecDepth 100000 in
set_option maxHeartbeats 2000000 in
theorem Curve_ok (v : Value) (n : Nat) (ss : List ByteArray) (fv : Value) (fs : List (Int × List Int)) (w : World) (hr : Rd w 1 v n (ss.map .string)) (hsz : szOk ss) (hf : RdF w fv fs) (h0 : lfault ss fs = 0) :
    Calls Tryz.prog 29 #[v, fv] w fun e w' => ∃ v', e = .returned (.tuple #[v', .int .i64 0]) ∧ w'.ownsRow w.heap.size 3 1 v' (ss.headD ByteArray.empty).size ((rowR (cntM (maskN ss fs) fs.length) (ss.headD ByteArray.empty).size).map (.int .i64)) ∧ Below w.heap.size w w' := by
  obtain ⟨t0, fl, fo⟩ := lfault_ok h0
  obtain ⟨l1, l2, hok, _⟩ := tfault_ok t0
  have hl : ss.length = n := by have := hr.len; simpa using this
  have hfo : ∀ f ∈ fs, FOk n f.1 f.2 := fun f hf => by rw [← hl]; exact FOk_of (fo f hf)
  have HR := Lib.hid hr
  have HF := Lib.hid hf
  obtain ⟨A, c, rfl, h1, h2, h3, h4⟩ := hr
  obtain ⟨b, off, rfl, hc⟩ := h4 (by omega)
  have hc0 := head_cell (by omega) hc
  have hs64 := head_ok (by omega) hok
  have hml := Lib.hid (maskN_lt ss fs hok (by omega))
  have HLM : Hid ((maskN ss fs).length = fs.length) := by show _ = _; rw [maskN, List.length_map]
  have H0 := Lib.hid h0
  have hn00 : 0 < n := by omega
  have hn1 : 1 ≤ n := hn00
  have hn2 : n ≤ 100 := by omega
  obtain ⟨i8, hi8, hz8, hs8, hb8⟩ := info_parts info3
  have HI := Lib.hid hi8
  have HZ8 := Lib.hid hz8
  have HS8 := Lib.hid hs8
  have HB8 := Lib.hid hb8
  generalize hs0 : ss.headD ByteArray.empty = s0 at *
  have HS0 := Lib.hid hs0
  clear hs0
  clear h0 t0 fo hc h4 h3 hf hl hi8 hz8 hs8 hb8
  obtain ⟨A2, c2, rfl, _, _, _⟩ := HF.out
  go_enter Tryz.func29, Tryz.ntmps29
  go_wp2_with fail
  refine (manyFault_any _ _ ss _ fs w HR.out hsz HF.out).mono ?_
  rintro e w1 ⟨rfl, hb1⟩
  rw [H0.out]
  have hc1 := cell_below hb1 _ _ hc0
  have hs1 := hb1.size
  go_wp2_with (at_make; refine wpList_make_full _ rfl _ _ 22 rfl w.heap.size 3 i8 (.int .i64 0) 1 Tryz.underlying22 HI.out HZ8.out HS8.out .i64 .i64 _ _ s0.size rfl rfl rfl rfl (by rw [HB8.out]; omega) (by unfold maxLen; omega) hs1 ?_; intro w2 hown2 hg2)
  rw [made_int] at hown2
  have hb2 : Below w1.heap.size w1 w2 := below_grown0 hg2
  have hb12 := hb1.trans (hb2.mono hs1)
  generalize hG : w1.heap.size = g at *
  have HG := Lib.hid hG
  clear hG
  refine (masks_any _ _ n ss fs w2 (HR.out.below hb12) (HF.out.below hb12) hn1 hn2 hok hfo fl).mono ?_
  rintro e w3 ⟨v3, rfl, hown3, hb3⟩
  have hb13 := hb12.trans (hb3.mono hb12.size)
  have hown := own_below hown2 hb3
  have hg3 : g < w3.heap.size := (own_lt hown rfl).2
  obtain ⟨A4, c4, rfl, k1, k2, k3, k4⟩ := Rd.of_own hown3
  have hmsb : ∀ A m c, Value.slice A4 fs.length c4 = .slice (some A) m c → 0 < fs.length → g < A.block := fun A m c e hp => by
    injection e with e
    subst e
    have h5 : g < w2.heap.size := (own_lt hown2 rfl).2
    rcases hown3.2 with ⟨e, _⟩ | ⟨g', cap', cur', e, hg', _⟩
    · cases e
    · injection e with e
      injection e with e
      subst e
      show g < g'
      omega
  generalize hms : maskN ss fs = ms at *
  have HMS := Lib.hid hms
  have HK4 := Lib.hid k4
  have HMB := Lib.hid hmsb
  clear hms hown3 k3 k4 hmsb hown2 hg2 hb12 hb2
  go_wp2_with fail
  go_loopw [26] (fun i wr => ∃ k : Nat, k ≤ fs.length ∧ i = .int .i64 k ∧ wr.ownsRow w.heap.size 3 1 (.slice (some ⟨g, 0, none⟩) s0.size s0.size) s0.size ((rowR (cntM ms k) s0.size).map (.int .i64)) ∧ Below w.heap.size w wr ∧ Hid (w3.grownBy wr (some g))) (fun i _ => fs.length - (intOf i).toNat)
  case atStart => exact ⟨0, by omega, rfl, by rw [show rowR (cntM ms 0) s0.size = rowR (fun _ => 0) s0.size from rowR_congr fun j _ => by simp [cntM]]; exact hown, hb13, gb_refl _ _⟩
  case round =>
    obtain ⟨k, hk, rfl, hown, hbel, HGB⟩ := hrel
    by_cases hlt : k < fs.length
    · obtain ⟨b2, off2, rfl, hc2⟩ := HK4.out (by omega)
      have hj2 : k < ms.length := by rw [HLM.out]; exact hlt
      have hbg : g < b2 := HMB.out _ _ _ rfl (by omega)
      have e1 : wr.cell? ⟨b2, off2 + k, none⟩ = some (.int .u64 ((ms[k]?.getD 0 : Nat) : Int)) := HGB.out.cell (hc2 k _ (u64s_at ms k hj2)) (fun e => by injection e with e; have e2 : g = b2 := e.symm ▸ rfl; omega)
      have e2 := getD_lt hml.out k
      have HCS : Hid (∀ j, cntM ms (k + 1) j = cntM ms k j + (if (ms[k]?.getD 0 &&& onesN ((j : Int) + 1)) != 0 then 1 else 0)) := fun j => cntM_succ ms k j hj2
      have HCL : Hid (∀ j, cntM ms k j ≤ k) := fun j => cntM_le ms k j
      clear hc2
      generalize ms[k]?.getD 0 = m at *
      obtain ⟨w5, hw5⟩ : ∃ w5, w5 = wr := ⟨_, rfl⟩
      rw [← hw5] at hown hbel HGB e1 ⊢
      clear hw5
      go_wp2_with fail
      go_loopw [32] (fun i wr => ∃ j : Nat, j ≤ s0.size ∧ i = .int .i64 j ∧ wr.ownsRow w.heap.size 3 1 (.slice (some ⟨g, 0, none⟩) s0.size s0.size) s0.size ((rowR (fun i => if i < j then cntM ms (k + 1) i else cntM ms k i) s0.size).map (.int .i64)) ∧ Below w.heap.size w wr ∧ Hid (w3.grownBy wr (some g))) (fun i _ => s0.size - (intOf i).toNat)
      case atStart => exact ⟨0, by omega, rfl, by simpa using hown, hbel, HGB⟩
      case round =>
        obtain ⟨j, hj, rfl, hown, hbel, HGB⟩ := hrel
        by_cases hltj : j < s0.size
        · have hol := ones_lt ((j : Int) + 1) (by omega)
          have HX := Lib.hid (u64_and_nat m (onesN ((j : Int) + 1)) e2 hol)
          have hcl := HCL.out j
          have hcell := own_cell_int hown j hltj
          rw [rowR_get _ _ _ hltj, if_neg (Nat.lt_irrefl j)] at hcell
          have hfz := hown.frozenAt j
          have HCJ : Hid (cntM ms (k + 1) j = cntM ms k j + (if (m &&& onesN ((j : Int) + 1)) != 0 then 1 else 0)) := HCS.out j
          have hset : rowR (fun i => if i < j + 1 then cntM ms (k + 1) i else cntM ms k i) s0.size = (rowR (fun i => if i < j then cntM ms (k + 1) i else cntM ms k i) s0.size).set j ((cntM ms (k + 1) j : Nat) : Int) := by
            rw [rowR_set]
            refine rowR_congr fun i _ => ?_
            by_cases h1 : i = j
            · subst h1; simp
            · by_cases h2 : i < j
              · simp [h2, show i < j + 1 by omega, h1]
              · simp [h2, show ¬ i < j + 1 by omega, h1]
          have HSET := Lib.hid hset
          clear hset
          have hsz5 := hbel.size
          have hglt := (own_lt hown rfl).1
          generalize hq : m &&& onesN ((j : Int) + 1) = q at *
          have HQ := Lib.hid hq
          clear hq
          have hx := HX.out
          generalize hcj : cntM ms k j = cj at *
          have HCJ2 := Lib.hid hcj
          clear hcj
          by_cases hq0 : q = 0
          · have hb : ((q : Int) != 0) = false := by rw [bne_eq_false_iff_eq]; omega
            have HE : Hid (cntM ms (k + 1) j = cj) := by show _ = _; rw [HCJ.out, hq0]; rfl
            have HROW : Hid (rowR (fun i => if i < j + 1 then cntM ms (k + 1) i else cntM ms k i) s0.size = rowR (fun i => if i < j then cntM ms (k + 1) i else cntM ms k i) s0.size) := by
              show _ = _
              refine rowR_congr fun i _ => ?_
              by_cases h1 : i = j
              · subst h1; simp [HE.out, HCJ2.out]
              · by_cases h2 : i < j
                · simp [h2, show i < j + 1 by omega]
                · simp [h2, show ¬ i < j + 1 by omega]
            clear hq0
            go_wp2_with (go_at_call 59; refine (whole_any _ (by omega) (by omega) _).mono ?_; rintro e w6 ⟨rfl, rfl⟩)
            go_roundw
            case rel => exact ⟨j + 1, by omega, by go_num, by rw [HROW.out]; exact hown, hbel, HGB⟩
            case measure => simp [intOf]; omega
          · have hb : ((q : Int) != 0) = true := by rw [bne_iff_ne]; omega
            have HE : Hid (cntM ms (k + 1) j = cj + 1) := by show _ = _; rw [HCJ.out, if_pos (by simpa using hq0)]
            clear hq0
            go_wp2_with (go_at_call 59; refine (whole_any _ (by omega) (by omega) _).mono ?_; rintro e w6 ⟨rfl, rfl⟩)
            go_roundw
            case rel => exact ⟨j + 1, by omega, by go_num, by rw [HSET.out, HE.out]; exact own_set_int hown j _, hbel.setCell hglt _, gb_setCell HGB.out (.inl rfl) _⟩
            case measure => simp [intOf]; omega
        · obtain rfl : j = s0.size := by omega
          have HROW : Hid (rowR (fun i => if i < s0.size then cntM ms (k + 1) i else cntM ms k i) s0.size = rowR (cntM ms (k + 1)) s0.size) := rowR_congr fun i hi => by simp [hi]
          rw [HROW.out] at hown
          go_wp2_with fail
          go_roundw
          case rel => exact ⟨k + 1, by omega, by go_num, hown, hbel, HGB⟩
          case measure => simp [intOf]; omega
    · obtain rfl : k = fs.length := by omega
      go_wp2_with fail
      go_ret2
      exact ⟨_, rfl, by rw [HMS.out]; exact hown, hbel⟩
end Go.Proofs.YtedpnjbbcfiheaaGreatDoor

import Derived.Test.YtedpnjbbcfiheaaGreatDoorFLB12
import Derived.Test.YtedpnjbbcfiheaaGreatDoorFLB05
import Derived.Test.YtedpnjbbcfiheaaGreatDoorFLB06
set_option linter.unusedSimpArgs false
set_option linter.unusedSectionVars false
set_option linter.unusedVariables false
/- Walks of Undetected, UndetectedOf, FirstOf. -/
set_option linter.unusedVariables false
namespace Go.Proofs.YtedpnjbbcfiheaaGreatDoor
open Go.RowKit Go.Sc
/-- the numbers of which something is so -/
def numL (p : Nat → Bool) (k : Nat) : List Int := ((List.range k).filter p).map Int.ofNat
theorem numL_succ (p : Nat → Bool) (k : Nat) : numL p (k + 1) = numL p k ++ (if p k = true then [(k : Int)] else []) := by
  unfold numL
  rw [List.range_succ, List.filter_append, List.map_append]
  cases h : p k <;> simp [h]
theorem numL_len (p : Nat → Bool) (k : Nat) : (numL p k).length ≤ k := by
  unfold numL
  rw [List.length_map]
  exact Nat.le_trans (List.length_filter_le _ _) (by simp)
theorem numL_congr {p q : Nat → Bool} {k : Nat} (h : ∀ i, i < k → p i = q i) : numL p k = numL q k := by
  unfold numL
  rw [List.filter_congr fun i hi => h i (List.mem_range.1 hi)]
def undM (ms : List Nat) (i : Nat) : Bool := ms[i]?.getD 0 == 0
set_option maxRecDepth 100000 in
set_option maxHeartbeats 1000000 in
theorem Undetected_ok (v : Value) (n : Nat) (ss : List ByteArray) (fv : Value) (fs : List (Int × List Int)) (w : World) (hr : Rd w 1 v n (ss.map .string)) (hsz : szOk ss) (hf : RdF w fv fs) (h0 : lfault ss fs = 0) :
    Calls Tryz.prog 25 #[v, fv] w fun e w' => ∃ v', e = .returned (.tuple #[v', .int .i64 0]) ∧ w'.ownsRow w.heap.size 3 1 v' (numL (undM (maskN ss fs)) fs.length).length ((numL (undM (maskN ss fs)) fs.length).map (.int .i64)) ∧ Below w.heap.size w w' := by
  obtain ⟨t0, fl, fo⟩ := lfault_ok h0
  obtain ⟨l1, l2, hok, _⟩ := tfault_ok t0
  have hl : ss.length = n := by have := hr.len; simpa using this
  have hfo : ∀ f ∈ fs, FOk n f.1 f.2 := fun f hf => by rw [← hl]; exact FOk_of (fo f hf)
  have HR := Lib.hid hr
  have HF := Lib.hid hf
  have hml := Lib.hid (maskN_lt ss fs hok (by omega))
  have HLM : Hid ((maskN ss fs).length = fs.length) := by show _ = _; rw [maskN, List.length_map]
  have H0 := Lib.hid h0
  have hn1 : 1 ≤ n := by omega
  have hn2 : n ≤ 100 := by omega
  clear h0 t0 fo hl
  go_enter Tryz.func25, Tryz.ntmps25
  go_wp2_with fail
  refine (manyFault_any _ _ ss _ fs w HR.out hsz HF.out).mono ?_
  rintro e w1 ⟨rfl, hb1⟩
  rw [H0.out]
  go_wp2_with fail
  refine (masks_any _ _ n ss fs w1 (HR.out.below hb1) (HF.out.below hb1) hn1 hn2 hok hfo fl).mono ?_
  rintro e w2 ⟨v2, rfl, hown, hb2⟩
  have hrd2 := Rd.of_own hown
  generalize hms : maskN ss fs = ms at *
  have HMS := Lib.hid hms
  clear hms
  have hb12 : Below w.heap.size w w2 := hb1.trans (hb2.mono hb1.size)
  obtain ⟨A2, c2, rfl, k1, k2, k3, k4⟩ := hrd2
  have HK4 := Lib.hid k4
  clear hown k3 k4 hr hf
  go_wp2_with fail
  go_loopw [7, 20] (fun v i wr => ∃ k : Nat, k ≤ fs.length ∧ i = .int .i64 k ∧ wr.ownsRow w2.heap.size 3 1 v (numL (undM ms) k).length ((numL (undM ms) k).map (.int .i64)) ∧ Below w2.heap.size w2 wr) (fun _ i _ => fs.length - (intOf i).toNat)
  case atStart => exact ⟨0, by omega, rfl, World.ownsRow_nil _ _ _ _, Below.refl _ _⟩
  case round =>
    obtain ⟨k, hk, rfl, hown, hbe2⟩ := hrel
    by_cases hlt : k < fs.length
    · obtain ⟨b2, off2, rfl, hc2⟩ := HK4.out (by omega)
      have hj2 : k < ms.length := by rw [HLM.out]; exact hlt
      have e1 := cell_below hbe2 _ _ (hc2 k _ (u64s_at ms k hj2))
      have hsz2 : w2.heap.size ≤ wr.heap.size := hbe2.size
      have hlen := numL_len (undM ms) k
      have HU : Hid (undM ms k = (ms[k]?.getD 0 == 0)) := rfl
      clear hc2
      generalize ms[k]?.getD 0 = m at *
      by_cases hp : m = 0
      · have e3 : ((m : Int) == 0) = true := beq_iff_eq.2 (by omega)
        have HN : Hid (numL (undM ms) (k + 1) = numL (undM ms) k ++ [(k : Int)]) := by show _ = _; rw [numL_succ, HU.out, if_pos (beq_iff_eq.2 hp)]
        clear hp
        go_wp2_with (at_builtin; refine app w2.heap.size rfl _ _ 22 3 (.int .i64 0) 1 8 rfl Tryz.underlying22 info3 rfl (by decide) (by decide) _ _ _ hown _ 1 rfl rfl rfl (by simp [Value.oneCell']) hsz2 (by omega) ?_; intro v1 w3 hown1 hg1 hat)
        go_roundw
        case rel => exact ⟨k + 1, by omega, by go_num, by rw [HN.out]; simpa using hown1, hbe2.grown hg1 hsz2 (fun j hj => (own_lt hown hj).1)⟩
        case measure => simp [intOf]; omega
      · have e3 : ((m : Int) == 0) = false := beq_eq_false_iff_ne.2 (by omega)
        have HN : Hid (numL (undM ms) (k + 1) = numL (undM ms) k) := by show _ = _; rw [numL_succ, HU.out, if_neg (by simpa using hp), List.append_nil]
        clear hp
        go_wp2_with fail
        go_roundw
        case rel => exact ⟨k + 1, by omega, by go_num, by rw [HN.out]; exact hown, hbe2⟩
        case measure => simp [intOf]; omega
    · obtain rfl : k = fs.length := by omega
      go_wp2_with fail
      go_ret2
      exact ⟨_, rfl, by rw [HMS.out]; exact own_mono hown hb12.size, hb12.trans (hbe2.mono hb12.size)⟩
theorem Undetected_bad (v : Value) (n : Nat) (ss : List ByteArray) (fv : Value) (fs : List (Int × List Int)) (w : World) (hr : Rd w 1 v n (ss.map .string)) (hsz : szOk ss) (hf : RdF w fv fs) (h0 : lfault ss fs ≠ 0) :
    Calls Tryz.prog 25 #[v, fv] w fun e w' => e = .returned (.tuple #[.slice none 0 0, .int .i64 (lfault ss fs)]) ∧ Below w.heap.size w w' := by
  have HR := Lib.hid hr
  have HF := Lib.hid hf
  have e0 : (lfault ss fs == 0) = false := beq_eq_false_iff_ne.2 h0
  clear hr hf h0
  go_enter Tryz.func25, Tryz.ntmps25
  go_wp2_with fail
  refine (manyFault_any _ _ ss _ fs w HR.out hsz HF.out).mono ?_
  rintro e w1 ⟨rfl, hb1⟩
  go_wp2_with fail
  go_ret2
  exact ⟨rfl, hb1⟩
/-! ### the reference -/
def undC (ss : List ByteArray) (fs : List (Int × List Int)) (i : Nat) : Bool := decide ((match fs[i]? with | some f => catL ss f.1 f.2 | none => [0]).length = 0)
set_option maxRecDepth 100000 in
set_option maxHeartbeats 1000000 in
theorem UndetectedOf_any (tv fv : Value) (n : Nat) (ss : List ByteArray) (fs : List (Int × List Int)) (z : Nat) (w : World) (hr : Rd w 1 tv n (ss.map .string)) (hf : RdF w fv fs) (hok : okTest ss) (hz : ∀ s ∈ ss, s.size = z) (hn : n ≤ 100) (hn1 : 1 ≤ n) (hz64 : z ≤ 64)
    (hfo : ∀ f ∈ fs, FOk n f.1 f.2) (hfl : fs.length ≤ 20000) :
    Calls Tryz.prog 32 #[tv, fv] w fun e w' => ∃ v', e = .returned v' ∧ w'.ownsRow w.heap.size 3 1 v' (numL (undC ss fs) fs.length).length ((numL (undC ss fs) fs.length).map (.int .i64)) ∧ Below w.heap.size w w' := by
  have HR := Lib.hid hr
  have HOK := Lib.hid hok
  have HZ := Lib.hid hz
  have HFO := Lib.hid hfo
  obtain ⟨A2, c2, rfl, f1, f2, f3⟩ := hf
  obtain ⟨A, c, rfl, h1, h2, h3, h4⟩ := hr
  have HF3 := Lib.hid f3
  clear h3 h4 hok hz hfo f3
  go_enter Tryz.func32, Tryz.ntmps32
  go_wp2_with fail
  go_loopw [5, 10] (fun v i wr => ∃ k : Nat, k ≤ fs.length ∧ i = .int .i64 k ∧ wr.ownsRow w.heap.size 3 1 v (numL (undC ss fs) k).length ((numL (undC ss fs) k).map (.int .i64)) ∧ Below w.heap.size w wr) (fun _ i _ => fs.length - (intOf i).toNat)
  case atStart => exact ⟨0, by omega, rfl, World.ownsRow_nil _ _ _ _, Below.refl _ _⟩
  case round =>
    obtain ⟨k, hk, rfl, hown, hbel⟩ := hrel
    by_cases hlt : k < fs.length
    · obtain ⟨b2, off2, rfl, hf2⟩ := HF3.out (by omega)
      obtain ⟨f, hfk⟩ : ∃ f, fs[k]? = some f := ⟨fs[k]'(by omega), List.getElem?_eq_getElem _⟩
      obtain ⟨nv, g1, g2, g3⟩ := hf2 k f hfk
      have g1' := cell_below hbel _ _ g1
      have g2' := cell_below hbel _ _ g2
      have G3 := Lib.hid g3
      obtain ⟨A3, c3, rfl, _, _, _, _⟩ := g3
      have HU : Hid (undC ss fs k = decide ((catL ss f.1 f.2).length = 0)) := by show _ = _; unfold undC; rw [hfk]
      have hlen := numL_len (undC ss fs) k
      have hbw : Below wr.heap.size wr (wr.alloc (.cells #[.int .i64 f.1, .slice A3 f.2.length c3] 60)) := (Below.refl _ _).alloc (Nat.le_refl _) _
      have k0 : (wr.alloc (.cells #[.int .i64 f.1, .slice A3 f.2.length c3] 60)).cell? ⟨wr.heap.size, 0, none⟩ = some (.int .i64 f.1) := by rw [World.cell?_alloc_at _ _ _ _ rfl]; rfl
      have k1 : (wr.alloc (.cells #[.int .i64 f.1, .slice A3 f.2.length c3] 60)).cell? ⟨wr.heap.size, 1, none⟩ = some (.slice A3 f.2.length c3) := by rw [World.cell?_alloc_at _ _ _ _ rfl]; rfl
      have hbe : Below w.heap.size w (wr.alloc (.cells #[.int .i64 f.1, .slice A3 f.2.length c3] 60)) := hbel.alloc hbel.size _
      have HFV : Hid (FV (wr.alloc (.cells #[.int .i64 f.1, .slice A3 f.2.length c3] 60)) (.agg #[.int .i64 f.1, .slice A3 f.2.length c3]) f.1 f.2) := ⟨_, rfl, G3.out.below hbe⟩
      have HCA := Lib.hid (caught_any _ _ n ss f.1 f.2 z _ (HR.out.below hbe) HFV.out HOK.out HZ.out hn hn1 hz64 (HFO.out f (List.mem_of_getElem? hfk)))
      have hsz := hbel.size
      have hbws : (wr.alloc (.cells #[.int .i64 f.1, .slice A3 f.2.length c3] 60)).heap.size = wr.heap.size + 1 := by simp
      clear hfk g1 g2 hf2
      go_wp2_with fail
      refine HCA.out.mono ?_
      rintro e w3 ⟨v3, rfl, hown3, hb3⟩
      have hbel3 := hbe.trans (hb3.mono (by omega))
      have hown' := own_below hown (hbw.trans (hb3.mono (by omega)))
      have hs3 := hbel3.size
      obtain ⟨A4, c4, rfl, _, _, _, _⟩ := Rd.of_own hown3
      clear hown3
      generalize (catL ss f.1 f.2).length = q at *
      by_cases hp : q = 0
      · have e3 : ((q : Int) == 0) = true := beq_iff_eq.2 (by omega)
        have HN : Hid (numL (undC ss fs) (k + 1) = numL (undC ss fs) k ++ [(k : Int)]) := by show _ = _; rw [numL_succ, HU.out, if_pos (decide_eq_true hp)]
        clear hp
        go_wp2_with (at_builtin; refine app w.heap.size rfl _ _ 22 3 (.int .i64 0) 1 8 rfl Tryz.underlying22 info3 rfl (by decide) (by decide) _ _ _ hown' _ 1 rfl rfl rfl (by simp [Value.oneCell']) hs3 (by omega) ?_; intro v1 w8 hown1 hg1 hat)
        go_roundw
        case rel => exact ⟨k + 1, by omega, by go_num, by rw [HN.out]; simpa using hown1, hbel3.grown hg1 hs3 (fun j hj => (own_lt hown' hj).1)⟩
        case measure => simp [intOf]; omega
      · have e3 : ((q : Int) == 0) = false := beq_eq_false_iff_ne.2 (by omega)
        have HN : Hid (numL (undC ss fs) (k + 1) = numL (undC ss fs) k) := by show _ = _; rw [numL_succ, HU.out, if_neg (by simpa using hp), List.append_nil]
        clear hp
        go_wp2_with fail
        go_roundw
        case rel => exact ⟨k + 1, by omega, by go_num, by rw [HN.out]; exact hown', hbel3⟩
        case measure => simp [intOf]; omega
    · obtain rfl : k = fs.length := by omega
      go_wp2_with fail
      go_ret
      exact ⟨_, rfl, hown, hbel⟩
set_option maxRecDepth 100000 in
theorem FirstOf_any (tv fv : Value) (n : Nat) (ss : List ByteArray) (k : Int) (ns : List Int) (z : Nat) (w : World) (hr : Rd w 1 tv n (ss.map .string)) (hf : FV w fv k ns) (hok : okTest ss) (hz : ∀ s ∈ ss, s.size = z) (hn : n ≤ 100) (hn1 : 1 ≤ n) (hz64 : z ≤ 64)
    (hfo : FOk n k ns) :
    Calls Tryz.prog 83 #[tv, fv] w fun e w' => e = .returned (.tuple #[.int .i64 ((catL ss k ns)[0]?.getD 0), .bool (decide ((catL ss k ns).length ≠ 0))]) ∧ Below w.heap.size w w' := by
  obtain ⟨nv, rfl, hnv⟩ := hf
  have hbw : Below w.heap.size w (w.alloc (.cells #[.int .i64 k, nv] 60)) := (Below.refl _ _).alloc (Nat.le_refl _) _
  have hnv' : Rd (w.alloc (.cells #[.int .i64 k, nv] 60)) 1 nv ns.length (ns.map (.int .i64)) := hnv.below hbw
  have HCA := Lib.hid (caught_any tv (.agg #[.int .i64 k, nv]) n ss k ns z _ (hr.below hbw) ⟨nv, rfl, hnv'⟩ hok hz hn hn1 hz64 hfo)
  have hbx := Box2.new 60 w (.int .i64 k) nv
  have c0 := hbx.cell0
  have c1 := hbx.cell1
  obtain ⟨A3, c3, rfl, _, _, _, _⟩ := hnv
  clear hr hnv' hok hz
  go_enter Tryz.func83, Tryz.ntmps83
  go_wp2_with fail
  refine HCA.out.mono ?_
  rintro e w3 ⟨v3, rfl, hown3, hb3⟩
  have hb4 : Below w.heap.size w w3 := hbw.trans (hb3.mono (by simp))
  generalize hl : catL ss k ns = l at *
  have HL := Lib.hid hl
  clear hl
  obtain ⟨A4, c4, rfl, _, _, _, k4⟩ := Rd.of_own hown3
  cases l with
  | nil =>
    clear hown3 k4
    go_wp2_with fail
    go_ret2
    rw [HL.out]
    exact ⟨rfl, hb4⟩
  | cons x l =>
    obtain ⟨b4, off4, rfl, hc4⟩ := k4 (by simp)
    have hc0 : w3.cell? ⟨b4, off4, none⟩ = some (.int .i64 x) := hc4 0 _ rfl
    have e3 : (((x :: l).length : Int) == 0) = false := beq_eq_false_iff_ne.2 (by simp; omega)
    have hpos : 0 < (x :: l).length := by simp
    clear hown3 hc4
    generalize hq : (x :: l).length = q at *
    have HQ := Lib.hid hq
    clear hq
    go_wp2_with fail
    go_ret2
    rw [HL.out]
    exact ⟨by simp, hb4⟩
end Go.Proofs.YtedpnjbbcfiheaaGreatDoor

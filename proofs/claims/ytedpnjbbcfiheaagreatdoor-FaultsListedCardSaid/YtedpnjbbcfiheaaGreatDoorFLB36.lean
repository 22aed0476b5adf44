import Derived.Test.YtedpnjbbcfiheaaGreatDoorFLB23
import Derived.Test.YtedpnjbbcfiheaaGreatDoorFLB27
import Derived.Test.YtedpnjbbcfiheaaGreatDoorFLB31
import Derived.Test.YtedpnjbbcfiheaaGreatDoorFLB35
import Derived.Test.YtedpnjbbcfiheaaGreatDoorFLB30
set_option linter.unusedSimpArgs false
set_option linter.unusedSectionVars false
set_option linter.unusedVariables false
/- Contracts of the fault chapter, each in one sentence: All, Undetected, Coverage, Groups, Resolution, Curve. -/
set_option linter.unusedVariables false
namespace Go.Proofs.YtedpnjbbcfiheaaGreatDoor
open Go.RowKit Go.Sc
theorem RdF.nil (w : World) : RdF w (.slice none 0 0) [] := ⟨none, 0, rfl, by simp, by simp [maxLen], fun h => by simp at h⟩
theorem RdL.nil (w : World) : RdL w (.slice none 0 0) [] := ⟨none, 0, rfl, by simp, by simp [maxLen], fun h => by simp at h⟩
def allR (n : Int) (ks : List Int) : List (Int × List Int) := if allErr n ks = 0 then allF ks n.toNat else []
theorem allErr_zero {n : Int} {ks : List Int} (h : allErr n ks = 0) : kfault n ks = 0 ∧ (allF ks n.toNat).length ≤ 20000 := by
  unfold allErr at h
  split at h
  · rename_i h0
    refine ⟨h0, ?_⟩
    rw [allF_num]
    split at h
    · cases h
    · omega
  · rename_i h0
    exact absurd h h0
def AllP (w' : World) (n : Int) (ks : List Int) (v' : Value) : Prop := RdF w' v' (allR n ks)
theorem All_any (n : Int) (v : Value) (m : Nat) (ks : List Int) (w : World) (hr : Rd w 1 v m (ks.map (.int .i64))) :
    Calls Tryz.prog 24 #[.int .i64 n, v] w fun e w' => ∃ v', e = .returned (.tuple #[v', .int .i64 (allErr n ks)]) ∧ AllP w' n ks v' ∧ Below w.heap.size w w' := by
  have hl : ks.length = m := by have := hr.len; simpa using this
  by_cases h0 : kfault n ks = 0
  · obtain ⟨k1, k2, k3⟩ := kf_short h0
    obtain ⟨nn, rfl⟩ : ∃ nn : Nat, n = nn := ⟨n.toNat, by omega⟩
    by_cases hs : (allF ks nn).length ≤ 20000
    · have he : allErr nn ks = 0 := by unfold allErr; rw [if_pos h0, if_neg]; rw [Int.toNat_natCast, ← allF_num]; omega
      refine (All_ok nn v m ks w hr (by omega) (by omega) h0 hs).mono ?_
      rintro e w' ⟨v', rfl, hof, hb⟩
      refine ⟨v', by rw [he], ?_, hb⟩
      unfold AllP allR
      rw [if_pos he, Int.toNat_natCast]
      exact hof.rdf
    · have he : allErr nn ks = 2 := by unfold allErr; rw [if_pos h0, if_pos]; rw [Int.toNat_natCast, ← allF_num]; omega
      refine (All_large nn v m ks w hr (by omega) (by omega) h0 (by omega)).mono ?_
      rintro e w' ⟨rfl, hb⟩
      refine ⟨_, by rw [he], ?_, hb⟩
      unfold AllP allR
      rw [if_neg (by rw [he]; decide)]
      exact RdF.nil _
  · have he : allErr n ks = kfault n ks := by unfold allErr; rw [if_neg h0]
    refine (All_bad n v m ks w hr h0).mono ?_
    rintro e w' ⟨rfl, hb⟩
    refine ⟨_, by rw [he], ?_, hb⟩
    unfold AllP allR
    rw [if_neg (by rw [he]; exact h0)]
    exact RdF.nil _
theorem AllOf_ok (n : Int) (v : Value) (m : Nat) (ks : List Int) (w : World) (hr : Rd w 1 v m (ks.map (.int .i64))) (h : allErr n ks = 0) :
    Calls Tryz.prog 31 #[.int .i64 n, v] w fun e w' => ∃ v', e = .returned v' ∧ AllP w' n ks v' ∧ Below w.heap.size w w' := by
  obtain ⟨h0, hs⟩ := allErr_zero h
  obtain ⟨k1, k2, k3⟩ := kf_short h0
  have hl : ks.length = m := by have := hr.len; simpa using this
  obtain ⟨nn, rfl⟩ : ∃ nn : Nat, n = nn := ⟨n.toNat, by omega⟩
  refine (AllOf_any nn v m ks w hr (by omega) (by omega)).mono ?_
  rintro e w' ⟨v', rfl, hof, hb⟩
  refine ⟨v', rfl, ?_, hb⟩
  unfold AllP allR
  rw [if_pos h, Int.toNat_natCast]
  exact hof.rdf
def undR (ss : List ByteArray) (fs : List (Int × List Int)) : List Int := if lfault ss fs = 0 then numL (undM (maskN ss fs)) fs.length else []
def grpR (ss : List ByteArray) (fs : List (Int × List Int)) : List (List Int) := if lfault ss fs = 0 then (grp (keyG ss fs) fs.length).2 else []
def curR (ss : List ByteArray) (fs : List (Int × List Int)) : List Int := if lfault ss fs = 0 then rowR (cntM (maskN ss fs) fs.length) (ss.headD ByteArray.empty).size else []
def redF (a b : Nat) : Int × Int := (((a / Nat.gcd a b : Nat) : Int), ((b / Nat.gcd a b : Nat) : Int))
def covP (ss : List ByteArray) (fs : List (Int × List Int)) : Int × Int := if lfault ss fs = 0 ∧ fs.length ≠ 0 then redF (fs.length - (numL (undM (maskN ss fs)) fs.length).length) fs.length else (0, 0)
def resP (ss : List ByteArray) (fs : List (Int × List Int)) : Int × Int := if lfault ss fs = 0 ∧ fs.length ≠ 0 then redF (grp (keyG ss fs) fs.length).2.length fs.length else (0, 0)
def covE (ss : List ByteArray) (fs : List (Int × List Int)) : Int := if lfault ss fs = 0 then (if fs.length = 0 then 8 else 0) else lfault ss fs
def RowI (w' : World) (l : List Int) (v' : Value) : Prop := Rd w' 1 v' l.length (l.map (.int .i64))
theorem RowI.below {w w' : World} {l : List Int} {v : Value} (h : RowI w l v) (hb : Below w.heap.size w w') : RowI w' l v := Rd.below h hb
def RowO (w' : World) (base : Nat) (l : List Int) (v' : Value) : Prop := w'.ownsRow base 3 1 v' l.length (l.map (.int .i64))
theorem RowO.below {w w' : World} {base : Nat} {l : List Int} {v : Value} (h : RowO w base l v) (hb : Below w.heap.size w w') : RowO w' base l v := own_below h hb
theorem RowO.row {w : World} {base : Nat} {l : List Int} {v : Value} (h : RowO w base l v) : RowI w l v := Rd.of_own h
theorem RowO.gb {w w' : World} {base g : Nat} {l : List Int} {v : Value} (h : RowO w base l v) (hg : w.grownBy w' (some g)) (hb : g < base) : RowO w' base l v := own_strm h hg hb
theorem OwnG.gb {w w' : World} {base g : Nat} {v : Value} {css : List (List Int)} (h : OwnG w base v css) (hg : w.grownBy w' (some g)) (hb : g < base) : OwnG w' base v css := h.grown hg (fun k hk => by injection hk with hk; left; omega)
theorem oneK_nets (k : Int) (nets a : Nat) : ∀ f ∈ oneK k nets a, f.2.length ≤ 2 := fun f hf => by
  unfold oneK at hf
  split at hf
  · simp at hf; subst hf; simp
  · unfold oneA at hf
    obtain ⟨b, _, rfl⟩ := List.mem_map.1 hf
    simp
theorem allR_nets (n : Int) (ks : List Int) : ∀ f ∈ allR n ks, f.2.length ≤ 1000000 := fun f hf => by
  unfold allR at hf
  split at hf
  · unfold allF allK at hf
    obtain ⟨k, _, hf⟩ := List.mem_flatMap.1 hf
    obtain ⟨a, _, hf⟩ := List.mem_flatMap.1 hf
    have := oneK_nets k _ a f hf
    omega
  · cases hf
theorem allR_len (n : Int) (ks : List Int) : (allR n ks).length ≤ 1000000 := by
  unfold allR
  split
  · rename_i h
    have := (allErr_zero h).2
    omega
  · simp
theorem undR_len (ss : List ByteArray) (fs : List (Int × List Int)) : (undR ss fs).length ≤ fs.length := by
  unfold undR
  split
  · exact numL_len _ _
  · simp
theorem curR_len (ss : List ByteArray) (fs : List (Int × List Int)) : (curR ss fs).length ≤ 64 := by
  unfold curR
  split
  · rename_i h0
    obtain ⟨t0, fl, fo⟩ := lfault_ok h0
    obtain ⟨l1, l2, hok, hz⟩ := tfault_ok t0
    rw [rowR_len]
    exact head_ok (by omega) hok
  · simp
theorem grpR_len (ss : List ByteArray) (fs : List (Int × List Int)) : (grpR ss fs).length ≤ fs.length ∧ ∀ g ∈ grpR ss fs, g.length ≤ fs.length := by
  unfold grpR
  split
  · have := grp_len (keyG ss fs) fs.length
    exact ⟨by omega, grp_sub _ _⟩
  · simp
section
variable (v : Value) (n : Nat) (ss : List ByteArray) (fv : Value) (fs : List (Int × List Int)) (w : World) (hr : Rd w 1 v n (ss.map .string)) (hsz : szOk ss) (hf : RdF w fv fs)
include hr hsz hf
theorem Undetected_any : Calls Tryz.prog 25 #[v, fv] w fun e w' => ∃ v', e = .returned (.tuple #[v', .int .i64 (lfault ss fs)]) ∧ RowI w' (undR ss fs) v' ∧ Below w.heap.size w w' := by
  by_cases h0 : lfault ss fs = 0
  · refine (Undetected_ok v n ss fv fs w hr hsz hf h0).mono ?_
    rintro e w' ⟨v', rfl, hown, hb⟩
    refine ⟨v', by rw [h0], ?_, hb⟩
    unfold RowI undR
    rw [if_pos h0]
    exact Rd.of_own hown
  · refine (Undetected_bad v n ss fv fs w hr hsz hf h0).mono ?_
    rintro e w' ⟨rfl, hb⟩
    refine ⟨_, rfl, ?_, hb⟩
    unfold RowI undR
    rw [if_neg h0]
    exact Rd.nil _ _
theorem Groups_any : Calls Tryz.prog 27 #[v, fv] w fun e w' => ∃ v', e = .returned (.tuple #[v', .int .i64 (lfault ss fs)]) ∧ RdL w' v' (grpR ss fs) ∧ Below w.heap.size w w' := by
  by_cases h0 : lfault ss fs = 0
  · refine (Groups_ok v n ss fv fs w hr hsz hf h0).mono ?_
    rintro e w' ⟨v', rfl, hown, hb⟩
    refine ⟨v', by rw [h0], ?_, hb⟩
    unfold grpR
    rw [if_pos h0]
    exact hown.rdl
  · refine (Groups_bad v n ss fv fs w hr hsz hf h0).mono ?_
    rintro e w' ⟨rfl, hb⟩
    refine ⟨_, rfl, ?_, hb⟩
    unfold grpR
    rw [if_neg h0]
    exact RdL.nil _
theorem Curve_any : Calls Tryz.prog 29 #[v, fv] w fun e w' => ∃ v', e = .returned (.tuple #[v', .int .i64 (lfault ss fs)]) ∧ RowI w' (curR ss fs) v' ∧ Below w.heap.size w w' := by
  by_cases h0 : lfault ss fs = 0
  · refine (Curve_ok v n ss fv fs w hr hsz hf h0).mono ?_
    rintro e w' ⟨v', rfl, hown, hb⟩
    refine ⟨v', by rw [h0], ?_, hb⟩
    unfold RowI curR
    rw [if_pos h0, rowR_len]
    exact Rd.of_own hown
  · refine (Curve_bad v n ss fv fs w hr hsz hf h0).mono ?_
    rintro e w' ⟨rfl, hb⟩
    refine ⟨_, rfl, ?_, hb⟩
    unfold RowI curR
    rw [if_neg h0]
    exact Rd.nil _ _
theorem Coverage_any : Calls Tryz.prog 26 #[v, fv] w fun e w' => e = .returned (.tuple #[.agg #[.int .i64 (covP ss fs).1, .int .i64 (covP ss fs).2], .int .i64 (covE ss fs)]) ∧ Below w.heap.size w w' := by
  unfold covP covE
  by_cases h0 : lfault ss fs = 0
  · by_cases h1 : fs.length = 0
    · rw [if_pos h0, if_pos h1, if_neg (fun h => h.2 h1)]
      exact Coverage_none v n ss fv fs w hr hsz hf h0 h1
    · rw [if_pos h0, if_neg h1, if_pos ⟨h0, h1⟩]
      exact Coverage_ok v n ss fv fs w hr hsz hf h0 (by omega)
  · rw [if_neg h0, if_neg (fun h => h0 h.1)]
    exact Coverage_bad v n ss fv fs w hr hsz hf h0
theorem Resolution_any : Calls Tryz.prog 28 #[v, fv] w fun e w' => e = .returned (.tuple #[.agg #[.int .i64 (resP ss fs).1, .int .i64 (resP ss fs).2], .int .i64 (covE ss fs)]) ∧ Below w.heap.size w w' := by
  by_cases h : lfault ss fs = 0 ∧ fs.length ≠ 0
  · have e : covE ss fs = 0 := by unfold covE; rw [if_pos h.1, if_neg h.2]
    rw [e]
    unfold resP
    rw [if_pos h]
    exact Resolution_ok v n ss fv fs w hr hsz hf h.1 (by omega)
  · have h' : lfault ss fs ≠ 0 ∨ fs.length = 0 := by
      by_cases h0 : lfault ss fs = 0
      · exact .inr (by omega)
      · exact .inl h0
    have e : covE ss fs = resErr ss fs := by
      unfold covE resErr
      by_cases h0 : lfault ss fs = 0
      · rw [if_pos h0, if_pos h0, if_pos (by rcases h' with h' | h'; exact absurd h0 h'; exact h')]
      · rw [if_neg h0, if_neg h0]
    rw [e]
    unfold resP
    rw [if_neg h]
    exact Resolution_bad v n ss fv fs w hr hsz hf h'
/-! ### the reference, where the test and the faults are right -/
theorem UndetectedOf_law (h0 : lfault ss fs = 0) : Calls Tryz.prog 32 #[v, fv] w fun e w' => ∃ v', e = .returned v' ∧ RowO w' w.heap.size (undR ss fs) v' ∧ Below w.heap.size w w' := by
  have hl : ss.length = n := by have := hr.len; simpa using this
  obtain ⟨t0, fl, fo⟩ := lfault_ok h0
  obtain ⟨l1, l2, hok, hz⟩ := tfault_ok t0
  have hfo : ∀ f ∈ fs, FOk n f.1 f.2 := fun f hf => by rw [← hl]; exact FOk_of (fo f hf)
  refine (UndetectedOf_any v fv n ss fs _ w hr hf hok hz (by omega) (by omega) (head_ok (by omega) hok) hfo fl).mono ?_
  rintro e w' ⟨v', rfl, hown, hb⟩
  refine ⟨v', rfl, ?_, hb⟩
  unfold RowO undR
  rw [if_pos h0, law_und h0]
  exact hown
theorem GroupsOf_law (h0 : lfault ss fs = 0) : Calls Tryz.prog 33 #[v, fv] w fun e w' => ∃ v', e = .returned v' ∧ OwnG w' w.heap.size v' (grpR ss fs) ∧ Below w.heap.size w w' := by
  have hl : ss.length = n := by have := hr.len; simpa using this
  obtain ⟨t0, fl, fo⟩ := lfault_ok h0
  obtain ⟨l1, l2, hok, hz⟩ := tfault_ok t0
  have hfo : ∀ f ∈ fs, FOk n f.1 f.2 := fun f hf => by rw [← hl]; exact FOk_of (fo f hf)
  refine (GroupsOf_any v fv n ss fs _ w hr hf hok hz (by omega) (by omega) (head_ok (by omega) hok) hfo fl).mono ?_
  rintro e w' ⟨v', rfl, hown, hb⟩
  refine ⟨v', rfl, ?_, hb⟩
  unfold grpR
  rw [if_pos h0, law_groups h0]
  exact hown
theorem CurveOf_law (h0 : lfault ss fs = 0) : Calls Tryz.prog 34 #[v, fv] w fun e w' => ∃ v', e = .returned v' ∧ RowO w' w.heap.size (curR ss fs) v' ∧ Below w.heap.size w w' := by
  have hl : ss.length = n := by have := hr.len; simpa using this
  obtain ⟨t0, fl, fo⟩ := lfault_ok h0
  obtain ⟨l1, l2, hok, hz⟩ := tfault_ok t0
  have hfo : ∀ f ∈ fs, FOk n f.1 f.2 := fun f hf => by rw [← hl]; exact FOk_of (fo f hf)
  refine (CurveOf_any v fv n ss fs _ w hr hf hok hz rfl (by omega) (by omega) (head_ok (by omega) hok) hfo fl).mono ?_
  rintro e w' ⟨v', rfl, hown, hb⟩
  refine ⟨v', rfl, ?_, hb⟩
  unfold RowO curR
  rw [if_pos h0, rowR_len, law_curve h0]
  exact hown
theorem CoverageOf_law (h0 : lfault ss fs = 0) : Calls Tryz.prog 35 #[v, fv] w fun e w' => e = .returned (.tuple #[.agg #[.int .i64 (covP ss fs).1, .int .i64 (covP ss fs).2], .int .i64 (covE ss fs)]) ∧ Below w.heap.size w w' := by
  have hl : ss.length = n := by have := hr.len; simpa using this
  obtain ⟨t0, fl, fo⟩ := lfault_ok h0
  obtain ⟨l1, l2, hok, hz⟩ := tfault_ok t0
  have hfo : ∀ f ∈ fs, FOk n f.1 f.2 := fun f hf => by rw [← hl]; exact FOk_of (fo f hf)
  unfold covP covE
  by_cases h1 : fs.length = 0
  · rw [if_pos h0, if_pos h1, if_neg (fun h => h.2 h1)]
    exact CoverageOf_none v fv fs w hf h1
  · rw [if_pos h0, if_neg h1, if_pos ⟨h0, h1⟩, law_und h0]
    exact CoverageOf_ok v fv n ss fs _ w hr hf hok hz (by omega) (by omega) (head_ok (by omega) hok) hfo fl (by omega)
theorem ResolutionOf_law (h0 : lfault ss fs = 0) : Calls Tryz.prog 36 #[v, fv] w fun e w' => e = .returned (.tuple #[.agg #[.int .i64 (resP ss fs).1, .int .i64 (resP ss fs).2], .int .i64 (covE ss fs)]) ∧ Below w.heap.size w w' := by
  have hl : ss.length = n := by have := hr.len; simpa using this
  obtain ⟨t0, fl, fo⟩ := lfault_ok h0
  obtain ⟨l1, l2, hok, hz⟩ := tfault_ok t0
  have hfo : ∀ f ∈ fs, FOk n f.1 f.2 := fun f hf => by rw [← hl]; exact FOk_of (fo f hf)
  unfold resP covE
  by_cases h1 : fs.length = 0
  · rw [if_pos h0, if_pos h1, if_neg (fun h => h.2 h1)]
    exact ResolutionOf_none v fv fs w hf h1
  · rw [if_pos h0, if_neg h1, if_pos ⟨h0, h1⟩, law_groups h0]
    exact ResolutionOf_ok v fv n ss fs _ w hr hf hok hz (by omega) (by omega) (head_ok (by omega) hok) hfo fl (by omega)
end
end Go.Proofs.YtedpnjbbcfiheaaGreatDoor

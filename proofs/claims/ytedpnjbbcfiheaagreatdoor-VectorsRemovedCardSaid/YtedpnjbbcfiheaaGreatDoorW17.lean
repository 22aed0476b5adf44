/- Walk of NeededOf. -/
import Derived.Test.YtedpnjbbcfiheaaGreatDoorW11
import Derived.Test.YtedpnjbbcfiheaaGreatDoorW16
import Derived.Test.YtedpnjbbcfiheaaGreatDoorX5
set_option linter.unusedVariables false
namespace Go.Proofs.YtedpnjbbcfiheaaGreatDoor
open Go.RowKit Go.Sc
def oneL (l : List Int) : List Int := if l.length = 1 then l else []
def needC (ss : List ByteArray) (fs : List (Int × List Int)) : List Int := fs.flatMap fun f => oneL (catL ss f.1 f.2)
theorem needC_take (ss : List ByteArray) (fs : List (Int × List Int)) (k : Nat) (f : Int × List Int) (h : fs[k]? = some f) : needC ss (fs.take (k + 1)) = needC ss (fs.take k) ++ oneL (catL ss f.1 f.2) := by
  have hk : k < fs.length := by
    rcases Nat.lt_or_ge k fs.length with h' | h'
    · exact h'
    · rw [List.getElem?_eq_none h'] at h; cases h
  have e : fs[k] = f := by rw [List.getElem?_eq_getElem hk] at h; simpa using h
  unfold needC
  rw [List.take_succ_eq_append_getElem hk, List.flatMap_append, e]
  simp
theorem needC_len (ss : List ByteArray) (fs : List (Int × List Int)) (k : Nat) : (needC ss (fs.take k)).length ≤ k := by
  have key : ∀ l : List (Int × List Int), (needC ss l).length ≤ l.length := by
    intro l
    induction l with
    | nil => simp [needC]
    | cons f r ih =>
      have : needC ss (f :: r) = oneL (catL ss f.1 f.2) ++ needC ss r := by simp [needC]
      rw [this, List.length_append, List.length_cons]
      have h1 : (oneL (catL ss f.1 f.2)).length ≤ 1 := by unfold oneL; split <;> simp_all
      omega
  exact Nat.le_trans (key _) (by simp; omega)
set_option maxRecDepth 100000 in
set_option maxHeartbeats 1000000 in
theorem NeededOf_any (tv fv : Value) (n : Nat) (ss : List ByteArray) (fs : List (Int × List Int)) (z : Nat) (w : World) (hr : Rd w 1 tv n (ss.map .string)) (hf : RdF w fv fs) (hok : okTest ss) (hz : ∀ s ∈ ss, s.size = z) (hn : n ≤ 100) (hn1 : 1 ≤ n) (hz64 : z ≤ 64)
    (hfo : ∀ f ∈ fs, FOk n f.1 f.2) (hfl : fs.length ≤ 20000) :
    Calls Tryz.prog 14 #[tv, fv] w fun e w' => ∃ v', e = .returned v' ∧ w'.ownsRow w.heap.size 3 1 v' (Lib.compact (sortZ (needC ss fs))).length ((Lib.compact (sortZ (needC ss fs))).map (.int .i64)) ∧ Below w.heap.size w w' := by
  have HR := Lib.hid hr
  have HF := Lib.hid hf
  have HOK := Lib.hid hok
  have HZ := Lib.hid hz
  have HFO := Lib.hid hfo
  obtain ⟨A2, c2, rfl, f1, f2, f3⟩ := hf
  obtain ⟨A, c, rfl, h1, h2, h3, h4⟩ := hr
  clear h3 h4 hok hz hfo
  go_enter Tryz.func14, Tryz.ntmps14
  go_wp2_with fail
  go_loopw [5, 11] (fun v i wr => ∃ k : Nat, k ≤ fs.length ∧ i = .int .i64 k ∧ wr.ownsRow w.heap.size 3 1 v (needC ss (fs.take k)).length ((needC ss (fs.take k)).map (.int .i64)) ∧ Below w.heap.size w wr) (fun _ i _ => fs.length - (intOf i).toNat)
  case atStart => exact ⟨0, by omega, rfl, World.ownsRow_nil _ _ _ _, Below.refl _ _⟩
  case round =>
    obtain ⟨k, hk, rfl, hown, hbel⟩ := hrel
    by_cases hlt : k < fs.length
    · obtain ⟨b2, off2, rfl, hf2⟩ := f3 (by omega)
      obtain ⟨f, hfk⟩ : ∃ f, fs[k]? = some f := ⟨fs[k]'(by omega), List.getElem?_eq_getElem _⟩
      obtain ⟨nv, g1, g2, g3⟩ := hf2 k f hfk
      have g1' := cell_below hbel _ _ g1
      have g2' := cell_below hbel _ _ g2
      have G3 := Lib.hid g3
      obtain ⟨A3, c3, rfl, _, _, _, _⟩ := g3
      have HT := Lib.hid (needC_take ss fs k f hfk)
      have hll := needC_len ss fs k
      have hbw : Below wr.heap.size wr (wr.alloc (.cells #[.int .i64 f.1, .slice A3 f.2.length c3] 60)) := (Below.refl _ _).alloc (Nat.le_refl _) _
      have k0 : (wr.alloc (.cells #[.int .i64 f.1, .slice A3 f.2.length c3] 60)).cell? ⟨wr.heap.size, 0, none⟩ = some (.int .i64 f.1) := by rw [World.cell?_alloc_at _ _ _ _ rfl]; rfl
      have k1 : (wr.alloc (.cells #[.int .i64 f.1, .slice A3 f.2.length c3] 60)).cell? ⟨wr.heap.size, 1, none⟩ = some (.slice A3 f.2.length c3) := by rw [World.cell?_alloc_at _ _ _ _ rfl]; rfl
      have hbe : Below w.heap.size w (wr.alloc (.cells #[.int .i64 f.1, .slice A3 f.2.length c3] 60)) := hbel.alloc hbel.size _
      have HFV : Hid (FV (wr.alloc (.cells #[.int .i64 f.1, .slice A3 f.2.length c3] 60)) (.agg #[.int .i64 f.1, .slice A3 f.2.length c3]) f.1 f.2) := ⟨_, rfl, G3.out.below hbe⟩
      have HCA := Lib.hid (caught_any _ _ n ss f.1 f.2 z _ (HR.out.below hbe) HFV.out HOK.out HZ.out hn hn1 hz64 (HFO.out f (List.mem_of_getElem? hfk)))
      have hsz := hbel.size
      have hown0 := own_below hown hbw
      have hbws := hbw.size
      clear hfk g1 g2 hown
      go_wp2_with fail
      refine HCA.out.mono ?_
      rintro e w3 ⟨v3, rfl, hown3, hb3⟩
      have hbel3 := hbe.trans (hb3.mono (by omega))
      have hown' := own_below hown0 hb3
      have hs3 := hbel3.size
      generalize catL ss f.1 f.2 = cl at *
      clear hown0
      by_cases h1c : cl.length = 1
      · have HT2 : Hid (needC ss (fs.take (k + 1)) = needC ss (fs.take k) ++ cl) := by show _ = _; rw [HT.out, oneL, if_pos h1c]
        obtain ⟨x, rfl⟩ : ∃ x, cl = [x] := List.length_eq_one_iff.1 h1c
        obtain ⟨g, cap, rfl, _, _⟩ := hown3.form (by simp)
        have cx := own_cell_int hown3 0 (by simp)
        have hb : (([x].length : Int) == 1) = true := rfl
        go_wp2_with (at_builtin; refine app w.heap.size rfl _ _ 22 3 (.int .i64 0) 1 8 rfl Tryz.underlying22 info3 rfl (by decide) (by decide) _ _ _ hown' _ 1 rfl rfl rfl (by simp [Value.oneCell']) hs3 (by omega) ?_; intro v1 w8 hown1 hg1 hat)
        go_roundw
        case rel => exact ⟨k + 1, by omega, by go_num, by rw [HT2.out]; simpa using hown1, hbel3.grown hg1 hs3 (fun j hj => (own_lt hown' hj).1)⟩
        case measure => simp [intOf]; omega
      · have HT2 : Hid (needC ss (fs.take (k + 1)) = needC ss (fs.take k)) := by show _ = _; rw [HT.out, oneL, if_neg h1c]; simp
        have hb : ((cl.length : Int) == 1) = false := beq_eq_false_iff_ne.2 (by omega)
        obtain ⟨A4, c4, rfl, _, _, _, _⟩ := Rd.of_own hown3
        go_wp2_with fail
        go_roundw
        case rel => exact ⟨k + 1, by omega, by go_num, by rw [HT2.out]; exact hown', hbel3⟩
        case measure => simp [intOf]; omega
    · obtain rfl : k = fs.length := by omega
      have HT : Hid (fs.take fs.length = fs) := List.take_length
      rw [HT.out] at hown
      have hll := needC_len ss fs fs.length
      rw [HT.out] at hll
      generalize hnc : needC ss fs = nc at *
      have HNC := Lib.hid hnc
      clear hnc
      clear f3
      go_wp2_with fail
      refine (Sort_own _ _ _ _ _ hown (by omega)).mono ?_
      rintro e w2 ⟨rfl, hown2, hg2⟩
      have hb2 := hbel.grown hg2 hbel.size (fun j hj => (own_lt hown hj).1)
      go_wp2_with fail
      refine (Compact_own _ _ _ _ _ hown2 (by omega)).mono ?_
      rintro e w3 ⟨v3, rfl, hown3, hg3⟩
      have hb3 := hb2.grown hg3 hb2.size (fun j hj => (own_lt hown2 hj).1)
      go_wp2_with fail
      go_ret
      exact ⟨_, rfl, by rw [HNC.out]; exact hown3, hb3⟩
end Go.Proofs.YtedpnjbbcfiheaaGreatDoor

import Derived.Test.YtedpnjbbcfiheaaGreatDoorFLB28
import Derived.Test.YtedpnjbbcfiheaaGreatDoorFLB09
set_option linter.unusedSimpArgs false
set_option linter.unusedSectionVars false
set_option linter.unusedVariables false
/- Walks of Response, faulted. -/
set_option linter.unusedVariables false
namespace Go.Proofs.YtedpnjbbcfiheaaGreatDoor
open Go.RowKit Go.Sc
theorem rdf_one {w : World} {k : Int} {ns : List Int} {nv : Value} (h : Rd w 1 nv ns.length (ns.map (.int .i64))) : RdF (w.alloc (.cells #[.int .i64 k, nv] 60)) (.slice (some ⟨w.heap.size, 0, none⟩) 1 1) [(k, ns)] := by
  have hbl : Below w.heap.size w (w.alloc (.cells #[.int .i64 k, nv] 60)) := (Below.refl _ _).alloc (Nat.le_refl _) _
  refine ⟨_, 1, rfl, by simp, by unfold maxLen; omega, fun _ => ⟨_, _, rfl, fun j f hj => ?_⟩⟩
  obtain ⟨hj1, hj2⟩ := List.getElem?_eq_some_iff.1 hj
  have hj1 : j = 0 := by simpa using hj1
  subst hj1
  simp only [List.getElem_cons_zero] at hj2
  subst hj2
  refine ⟨nv, ?_, ?_, h.below hbl⟩
  · rw [World.cell?_alloc_at _ _ _ _ rfl]; rfl
  · rw [World.cell?_alloc_at _ _ _ _ rfl]; rfl
set_option maxRecDepth 100000 in
theorem Response_ok (v : Value) (n : Nat) (ss : List ByteArray) (fv : Value) (k : Int) (ns : List Int) (w : World) (hr : Rd w 1 v n (ss.map .string)) (hsz : szOk ss) (hf : FV w fv k ns) (h0 : lfault ss [(k, ns)] = 0) :
    Calls Tryz.prog 73 #[v, fv] w fun e w' => ∃ v', e = .returned (.tuple #[v', .int .i64 0]) ∧ w'.ownsRow w.heap.size 9 1 v' n ((combS ss [(k, ns)]).map .string) ∧ Below w.heap.size w w' := by
  obtain ⟨nv, rfl, hnv⟩ := hf
  have hb0 : Below w.heap.size w ((w.alloc (.cells #[.int .i64 k, nv] 60)).alloc (.cells #[.int .i64 k, nv] 60)) := ((Below.refl _ _).alloc (Nat.le_refl _) _).alloc (by simp) _
  have hnv1 : Rd (w.alloc (.cells #[.int .i64 k, nv] 60)) 1 nv ns.length (ns.map (.int .i64)) := hnv.below ((Below.refl _ _).alloc (Nat.le_refl _) _)
  have HRF := Lib.hid (rdf_one (k := k) hnv1)
  rw [World.size_alloc] at HRF
  have HR := Lib.hid (hr.below hb0)
  have H0 := Lib.hid h0
  obtain ⟨A, c, rfl, _, _, _⟩ := hr
  obtain ⟨A2, c2, rfl, _, _, _⟩ := hnv
  clear h0 hnv1
  go_enter Tryz.func73, Tryz.ntmps73
  go_wp2_with fail
  refine (Combined_ok _ n ss _ [(k, ns)] _ HR.out hsz HRF.out H0.out).mono ?_
  rintro e w1 ⟨v1, rfl, hown, hb1⟩
  go_wp2_with fail
  go_ret2
  exact ⟨_, rfl, own_mono hown (by simp; omega), hb0.trans (hb1.mono (by simp; omega))⟩
theorem tiny_ok : lfault [⟨#[48, 49]⟩] [(2, [0])] = 0 := by decide +kernel
theorem tiny_is : combS [⟨#[48, 49]⟩] [(2, [0])] = [⟨#[49, 49]⟩] := by decide +kernel
set_option maxRecDepth 100000 in
theorem faulted_any (w : World) : Calls Tryz.prog 19 #[] w fun e w' => e = .returned (.bool true) ∧ Below w.heap.size w w' := by
  have hb2 : Below w.heap.size w ((w.alloc (.cells #[.string ⟨#[48, 49]⟩] 9)).alloc (.cells #[.int .i64 0] 3)) := ((Below.refl _ _).alloc (Nat.le_refl _) _).alloc (by simp) _
  have HR : Hid (Rd ((w.alloc (.cells #[.string ⟨#[48, 49]⟩] 9)).alloc (.cells #[.int .i64 0] 3)) 1 (.slice (some ⟨w.heap.size, 0, none⟩) 1 1) 1 (([⟨#[48, 49]⟩] : List ByteArray).map .string)) :=
    (rd_alloc w [.string ⟨#[48, 49]⟩] 9 1 rfl (by unfold maxLen; omega)).below ((Below.refl _ _).alloc (Nat.le_refl _) _)
  have HF : Hid (FV ((w.alloc (.cells #[.string ⟨#[48, 49]⟩] 9)).alloc (.cells #[.int .i64 0] 3)) (.agg #[.int .i64 2, .slice (some ⟨w.heap.size + 1, 0, none⟩) 1 1]) 2 [0]) := by
    have := rd_alloc (w.alloc (.cells #[.string ⟨#[48, 49]⟩] 9)) [.int .i64 0] 3 1 rfl (by unfold maxLen; omega)
    rw [World.size_alloc] at this
    exact ⟨_, rfl, this⟩
  go_enter Tryz.func19, Tryz.ntmps19
  go_wp2_with fail
  refine (Response_ok _ 1 [⟨#[48, 49]⟩] _ 2 [0] _ HR.out (by intro s hs; simp at hs; subst hs; decide) HF.out tiny_ok).mono ?_
  rintro e w1 ⟨v1, rfl, hown, hb1⟩
  rw [tiny_is] at hown
  obtain ⟨g, cap, rfl, hg1, hg2⟩ := hown.form (by omega)
  have hc := hown.cellAt 0 (by omega)
  have hc : w1.cell? ⟨g, 0, none⟩ = some (.string ⟨#[49, 49]⟩) := hc
  have hb3 : Below w.heap.size w w1 := hb2.trans (hb1.mono (by simp; omega))
  clear hown
  go_wp2_with fail
  go_ret
  exact ⟨rfl, hb3⟩
end Go.Proofs.YtedpnjbbcfiheaaGreatDoor

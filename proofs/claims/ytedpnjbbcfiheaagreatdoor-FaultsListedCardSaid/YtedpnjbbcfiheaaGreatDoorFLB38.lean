import Derived.Test.YtedpnjbbcfiheaaGreatDoorFLB30
import Derived.Test.YtedpnjbbcfiheaaGreatDoorRows
import Derived.Below
import Derived.ChangeSame
import Derived.ChangeSlices
import Derived.ChangeVars
import Derived.JoinedOf
import Derived.ProofKit
import Derived.OpenShut
import Derived.SizedLaws
import Derived.LaidMore
import Derived.Lay
import Derived.Stop.Joined
set_option linter.unusedSimpArgs false
set_option linter.unusedSectionVars false
set_option linter.unusedVariables false
/- What a slice of numbers that came in gives a law. -/
set_option linter.unusedVariables false
namespace Go.Proofs.YtedpnjbbcfiheaaGreatDoor
open Go.ChangeShapes Go.WideShapes Go.ChangeAt Go.RowKit Go.Sc
theorem own_knob : ownKnob Tryz.prog.godebug = none := by kernel_rfl
theorem laid_out : laidOutB Tryz.prog = true := by kernel_rfl
theorem cells_int : Tryz.prog.cellsOf 3 = 1 := by kernel_rfl
theorem bytes_int : Tryz.prog.bytesOf 3 = 8 := by kernel_rfl
theorem arg_of_open {W : World} {a : Addr} {len cap : Nat} {zs : List Int} (hl : len ≤ zs.length) (hs : len * 8 ≤ 140737488351232) (hcell : ∀ i, i < zs.length → W.cell? (a.add i) = some (.int .i64 (zs.getD i 0))) (hw : ∀ n ∈ zs, (Lit.int .i64 n).wf = true) :
    (zs.take len).length = len ∧ ArgI W (some a) cap (zs.take len) := by
  have h1 : (zs.take len).length = len := by simp; omega
  refine ⟨h1, fun h0 => ?_, by rw [h1]; exact hs, fun x hx => ?_⟩
  · obtain ⟨b, off, spot⟩ := a
    have hspot : spot = none := by simpa [Addr.add] using World.cell?_spot (hcell 0 (by omega))
    subst hspot
    refine ⟨b, off, rfl, fun j hj => ?_⟩
    have := hcell j (by omega)
    rw [Sc.add_plain] at this
    rw [this]
    rw [h1] at hj
    simp [List.getD_eq_getElem?_getD, List.getElem?_take_of_lt hj]
  · exact bounds_i64 (hw x (List.mem_of_mem_take hx))
theorem arg_nil (W : World) (A : Option Addr) (cap : Nat) : ArgI W A cap [] := ⟨fun h => by simp at h, by simp, fun x hx => by simp at hx⟩
end Go.Proofs.YtedpnjbbcfiheaaGreatDoor

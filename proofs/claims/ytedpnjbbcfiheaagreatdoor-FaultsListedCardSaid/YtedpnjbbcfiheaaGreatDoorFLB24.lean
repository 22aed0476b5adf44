import Derived.Test.YtedpnjbbcfiheaaGreatDoorFLB06
set_option linter.unusedSimpArgs false
set_option linter.unusedSectionVars false
set_option linter.unusedVariables false
/- Sort at numbers in a part of a row. -/
set_option linter.unusedVariables false
namespace Go.Proofs.YtedpnjbbcfiheaaGreatDoor
open Go.RowKit Go.Sc Go.Sort
theorem sortZ_len (xs : List Int) : (sortZ xs).length = xs.length := List.length_mergeSort _
theorem grow_cell {w : World} {os : Array Obj} {p : Addr} {u : Value} (h : w.cell? p = some u) : (grow w os).cell? p = some u := by
  have hb := World.block_lt_of_cell? w p h
  exact (World.cell?_of_block (w := w) (heap_grow_old _ _ hb)).trans h
theorem Sort_part (b off n cap : Nat) (zs : List Int) (w : World) (hl : zs.length = n) (hn : n < 4611686018427387904) (hb : b < w.heap.size) (hc : ∀ j, j < n → w.cell? ⟨b, off + j, none⟩ = some (.int .i64 (zs[j]?.getD 0))) (hf : ∀ j, w.frozen? ⟨b, j, none⟩ = false) :
    Calls Tryz.prog 50 #[.slice (some ⟨b, off, none⟩) n cap] w fun e w' => e = .returned (.tuple #[]) ∧ (∀ j, j < n → w'.cell? ⟨b, off + j, none⟩ = some (.int .i64 ((sortZ zs)[j]?.getD 0))) ∧ (∀ p u, (p.block ≠ b ∨ p.off < off ∨ off + n ≤ p.off) → w.cell? p = some u → w'.cell? p = some u) ∧ w.grownBy w' (some b) := by
  subst hl
  have hH : Holds (Value.int .i64) w b off zs.toArray := fun j hj => by
    have hj' : j < zs.length := by simpa using hj
    refine ⟨?_, hf _⟩
    rw [hc j hj']
    simp [hj']
  refine (Tryz.slices_Sort_int b off cap zs w hH hb hn).mono ?_
  rintro e w' ⟨rfl, q, os, rfl⟩
  have hsz : (sortZ zs).toArray.size = zs.toArray.size := by simp [sortZ_len]
  refine ⟨rfl, fun j hj => ?_, fun p u hp hu => ?_, ?_⟩
  · refine grow_cell ?_
    have := cell?_putRow (Value.int .i64) (Sort.ahead w q) b off zs.toArray (sortZ zs).toArray (fun j hj => hH j hj) hsz j (by simpa [sortZ_len] using hj)
    refine this.trans ?_
    have hj2 : j < (sortZ zs).length := by rw [sortZ_len]; exact hj
    simp [hj2]
  · refine grow_cell ?_
    exact (cell?_putRow_other (Value.int .i64) (Sort.ahead w q) b off (sortZ zs).toArray p (by simpa [sortZ_len] using hp)).trans hu
  · refine ⟨rfl, rfl, rfl, by simp, fun k hk hne => ?_⟩
    rw [heap_grow_old _ _ (by simpa using hk)]
    have : b ≠ k := fun e => hne (by rw [e])
    simp [putRow, mapBlock, Sort.ahead, Array.getElem?_modify, this]
end Go.Proofs.YtedpnjbbcfiheaaGreatDoor

import Derived.Test.YtedpnjbbcfiheaaGreatDoorFLB29
import Derived.Test.YtedpnjbbcfiheaaGreatDoorShelf
set_option linter.unusedSimpArgs false
set_option linter.unusedSectionVars false
set_option linter.unusedVariables false
/- slices.Equal at slices that read alike; a stream at its start. -/
set_option linter.unusedVariables false
namespace Go.Proofs.YtedpnjbbcfiheaaGreatDoor
open Go.RowKit Go.Sc
theorem EqI_same (v u : Value) (n m : Nat) (xs ys : List Int) (w : World) (hx : Rd w 1 v n (xs.map (.int .i64))) (hy : Rd w 1 u m (ys.map (.int .i64))) (hn : n ≤ 1000000) (he : xs = ys) :
    Calls Tryz.prog 17 #[v, u] w fun e w' => e = .returned (.bool true) ∧ Below w.heap.size w w' := by
  subst he
  have hl1 : xs.length = n := by have := hx.len; simpa using this
  have hl2 : xs.length = m := by have := hy.len; simpa using this
  obtain ⟨A1, c1, rfl, _, _, h3, h4⟩ := hx
  obtain ⟨A2, c2, rfl, _, _, k3, k4⟩ := hy
  subst hl1; subst hl2
  rcases Nat.eq_zero_or_pos xs.length with h0 | h0
  · rw [h0]
    refine (Tryz.slices_Equal_int_empty A1 A2 c1 0 c2 w (by omega)).mono ?_
    rintro e w' ⟨rfl, rfl⟩
    exact ⟨rfl, Below.refl _ _⟩
  · obtain ⟨b1, o1, rfl, hc1⟩ := h4 h0
    obtain ⟨b2, o2, rfl, hc2⟩ := k4 h0
    refine (Tryz.slices_Equal_int b1 o1 _ c1 b2 o2 _ c2 xs xs w (Nat.le_refl _) (Nat.le_refl _) (by omega) (by omega) (fun j hj => hc1 j _ (by rw [List.getD_eq_getElem?_getD]; exact getD_map_int _ _ _ hj)) (fun j hj => hc2 j _ (by rw [List.getD_eq_getElem?_getD]; exact getD_map_int _ _ _ hj))).mono ?_
    rintro e w' ⟨rfl, q, rfl⟩
    exact ⟨by simp, pw_below_drewN (Below.refl _ _) q⟩
theorem EqS_same (v u : Value) (n m : Nat) (xs ys : List ByteArray) (w : World) (hx : Rd w 1 v n (xs.map .string)) (hy : Rd w 1 u m (ys.map .string)) (hn : n ≤ 1000000) (he : xs = ys) :
    Calls Tryz.prog 18 #[v, u] w fun e w' => e = .returned (.bool true) ∧ Below w.heap.size w w' := by
  subst he
  have hl1 : xs.length = n := by have := hx.len; simpa using this
  have hl2 : xs.length = m := by have := hy.len; simpa using this
  obtain ⟨A1, c1, rfl, _, _, h3, h4⟩ := hx
  obtain ⟨A2, c2, rfl, _, _, k3, k4⟩ := hy
  subst hl1; subst hl2
  have at_ : ∀ j, j < xs.length → (xs.map Value.string)[j]? = some (.string (xs.getD j ByteArray.empty)) := fun j hj => by simp [List.getD_eq_getElem?_getD, List.getElem?_eq_getElem hj]
  rcases Nat.eq_zero_or_pos xs.length with h0 | h0
  · rw [h0]
    refine (Tryz.slices_Equal_string_empty A1 A2 c1 0 c2 w (by omega)).mono ?_
    rintro e w' ⟨rfl, rfl⟩
    exact ⟨rfl, Below.refl _ _⟩
  · obtain ⟨b1, o1, rfl, hc1⟩ := h4 h0
    obtain ⟨b2, o2, rfl, hc2⟩ := k4 h0
    refine (Tryz.slices_Equal_string b1 o1 _ c1 b2 o2 _ c2 xs xs w (Nat.le_refl _) (Nat.le_refl _) (by omega) (by omega) (fun j hj => hc1 j _ (at_ j hj)) (fun j hj => hc2 j _ (at_ j hj))).mono ?_
    rintro e w' ⟨rfl, q, rfl⟩
    exact ⟨by simp, pw_below_drewN (Below.refl _ _) q⟩
/-- a slice of numbers that came in -/
structure ArgI (w : World) (A : Option Addr) (c : Nat) (xs : List Int) : Prop where
  cells : 0 < xs.length → ∃ b off, A = some ⟨b, off, none⟩ ∧ ∀ j, j < xs.length → w.cell? ⟨b, off + j, none⟩ = some (.int .i64 (xs.getD j 0))
  small : xs.length * 8 ≤ 140737488351232
  wf : ∀ x ∈ xs, -9223372036854775808 ≤ x ∧ x ≤ 9223372036854775807
theorem strm_start {w : World} {A : Option Addr} {c : Nat} {xs : List Int} (h : ArgI w A c xs) : Strm TS (w.alloc (.cells #[.slice A xs.length c, .int .i64 0] TS)) w.heap.size xs 0 := by
  have hb : Below w.heap.size w (w.alloc (.cells #[.slice A xs.length c, .int .i64 0] TS)) := (Below.refl _ _).alloc (Nat.le_refl _) _
  refine ⟨⟨A, c, heap_alloc_new w _, fun hn => ?_⟩, h.small, h.wf, by omega, by omega⟩
  obtain ⟨b, off, rfl, hc⟩ := h.cells hn
  exact ⟨b, off, rfl, World.block_lt_of_cell? _ _ (hc 0 hn), fun j hj => cell_below hb _ _ (hc j hj)⟩
theorem below_gb {w w' : World} (h : w.grownBy w' (some w.heap.size)) : Below w.heap.size w w' := ⟨h.os, h.tape, h.output, h.size, fun i hi => h.block i hi (by simp; omega)⟩
end Go.Proofs.YtedpnjbbcfiheaaGreatDoor

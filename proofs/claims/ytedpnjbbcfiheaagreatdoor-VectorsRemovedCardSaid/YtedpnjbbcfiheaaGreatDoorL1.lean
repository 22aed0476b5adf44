/- The stream of numbers as a state in memory, and what its first methods answer. -/
import Derived.Test.YtedpnjbbcfiheaaGreatDoorL0
namespace Go.Sc
open Go.RowKit

theorem World.grownBy.trans' {a b c : World} {g : Nat} (h : a.grownBy b (some g)) (k : b.grownBy c (some g)) : a.grownBy c (some g) :=
  ⟨k.os.trans h.os, k.tape.trans h.tape, k.output.trans h.output, Nat.le_trans h.size k.size, fun i hi hne => (k.block i (Nat.lt_of_lt_of_le hi h.size) hne).trans (h.block i hi hne)⟩
theorem gb_drewN {a w : World} {row : Option Nat} (h : a.grownBy w row) (n : Nat) : a.grownBy (w.drewN n) row := ⟨h.os, h.tape, h.output, h.size, h.block⟩
theorem gb_alloc {a w : World} {row : Option Nat} (h : a.grownBy w row) (o : Obj) : a.grownBy (w.alloc o) row :=
  ⟨h.os, h.tape, h.output, Nat.le_trans h.size (by simp), fun i hi hne => (Below.heap_alloc w o i (Nat.lt_of_lt_of_le hi h.size)).trans (h.block i hi hne)⟩
theorem gb_setCell {a w : World} {g : Nat} (h : a.grownBy w (some g)) {p : Addr} (hp : p.block = g ∨ a.heap.size ≤ p.block) (u : Value) : a.grownBy (w.setCell p u) (some g) :=
  ⟨h.os, h.tape, h.output, by simpa [World.setCell] using h.size, fun i hi hne => (Below.heap_setCell w p u i (by
    rintro rfl
    rcases hp with hp | hp
    · exact hne (by rw [hp])
    · omega)).trans (h.block i hi hne)⟩
theorem gb_below {a w w' : World} {g : Nat} (h : a.grownBy w (some g)) (hb : Below w.heap.size w w') : a.grownBy w' (some g) :=
  World.grownBy.trans' h ⟨hb.os, hb.tape, hb.output, hb.size, fun i hi _ => hb.block i hi⟩
theorem gb_refl (w : World) (row : Option Nat) : w.grownBy w row := ⟨rfl, rfl, rfl, Nat.le_refl _, fun _ _ _ => rfl⟩
theorem gb_of_below {a w : World} (h : Below a.heap.size a w) (row : Option Nat) : a.grownBy w row := ⟨h.os, h.tape, h.output, h.size, fun i hi _ => h.block i hi⟩

/-- Block g holds a stream (of struct type T) over the numbers xs, a of which have been handed out. -/
structure Strm (T : TypeId) (w : World) (g : Nat) (xs : List Int) (a : Int) : Prop where
  blk : ∃ A c, w.heap[g]? = some (.cells #[.slice A xs.length c, .int .i64 a] T (0, 0)) ∧
    (0 < xs.length → ∃ b off, A = some ⟨b, off, none⟩ ∧ b < g ∧ ∀ j, j < xs.length → w.cell? ⟨b, off + j, none⟩ = some (.int .i64 (xs.getD j 0)))
  small : xs.length * 8 ≤ 140737488351232
  wf : ∀ x ∈ xs, -9223372036854775808 ≤ x ∧ x ≤ 9223372036854775807
  lo : 0 ≤ a
  hi : a ≤ 1000000000

theorem Strm.mono {T : TypeId} {w w' : World} {g : Nat} {xs : List Int} {a : Int} (h : Strm T w g xs a) (hg : w'.heap[g]? = w.heap[g]?) (hk : ∀ p u, p.block ≠ g → w.cell? p = some u → w'.cell? p = some u) : Strm T w' g xs a := by
  obtain ⟨⟨A, c, hb, hc⟩, h2, h3, h4, h5⟩ := h
  refine ⟨⟨A, c, hg.trans hb, fun hn => ?_⟩, h2, h3, h4, h5⟩
  obtain ⟨b, off, rfl, hne, hcell⟩ := hc hn
  exact ⟨b, off, rfl, hne, fun j hj => hk _ _ (by show b ≠ g; omega) (hcell j hj)⟩
theorem Strm.lt {T : TypeId} {w : World} {g : Nat} {xs : List Int} {a : Int} (h : Strm T w g xs a) : g < w.heap.size := by
  obtain ⟨A, c, hb, _⟩ := h.blk
  exact (Array.getElem?_eq_some_iff.1 hb).1
theorem Strm.below {T : TypeId} {w w' : World} {g : Nat} {xs : List Int} {a : Int} (h : Strm T w g xs a) (hb : Below w.heap.size w w') : Strm T w' g xs a :=
  h.mono (hb.block g h.lt) fun p u _ hu => cell_below hb p u hu
theorem Strm.drewN {T : TypeId} {w : World} {g : Nat} {xs : List Int} {a : Int} (h : Strm T w g xs a) (n : Nat) : Strm T (w.drewN n) g xs a := h.mono rfl fun _ _ _ hu => hu
theorem Strm.alloc {T : TypeId} {w : World} {g : Nat} {xs : List Int} {a : Int} (h : Strm T w g xs a) (o : Obj) : Strm T (w.alloc o) g xs a := h.below ((Below.refl _ _).alloc (Nat.le_refl _) o)
theorem Strm.step {T : TypeId} {w : World} {g : Nat} {xs : List Int} {a b : Int} (h : Strm T w g xs a) (h0 : 0 ≤ b) (h1 : b ≤ 1000000000) : Strm T (w.setCell ⟨g, 1, none⟩ (.int .i64 b)) g xs b := by
  obtain ⟨⟨A, c, hb, hc⟩, h2, h3, h4, h5⟩ := h
  refine ⟨⟨A, c, by simp [World.setCell, Array.getElem?_modify, hb], fun hn => ?_⟩, h2, h3, h0, h1⟩
  obtain ⟨b', off, rfl, hne, hcell⟩ := hc hn
  exact ⟨b', off, rfl, hne, fun j hj => (World.cell?_of_block (w := w) (Below.heap_setCell _ _ _ _ (by show b' ≠ g; omega))).trans (hcell j hj)⟩

/-- A store to a block that was made behind the stream. -/
theorem Strm.far {T : TypeId} {w : World} {g : Nat} {xs : List Int} {a : Int} (h : Strm T w g xs a) {p : Addr} (hg : g < p.block) (v : Value) : Strm T (w.setCell p v) g xs a := by
  obtain ⟨⟨A, c, hh, hc⟩, h2, h3, h4, h5⟩ := h
  refine ⟨⟨A, c, (Below.heap_setCell _ _ _ _ (by omega)).trans hh, fun hn => ?_⟩, h2, h3, h4, h5⟩
  obtain ⟨b, off, rfl, hne, hcell⟩ := hc hn
  exact ⟨b, off, rfl, hne, fun j hj => (World.cell?_of_block (w := w) (Below.heap_setCell _ _ _ _ (by show b ≠ p.block; omega))).trans (hcell j hj)⟩
/-- What is written behind the stream leaves it as it is. -/
theorem Strm.grown {T : TypeId} {w w' : World} {g : Nat} {xs : List Int} {a : Int} {row : Option Nat} (h : Strm T w g xs a) (hg : w.grownBy w' row) (hr : ∀ k, row = some k → g < k) : Strm T w' g xs a := by
  have hlt := h.lt
  obtain ⟨⟨A, c, hh, hc⟩, h2, h3, h4, h5⟩ := h
  refine ⟨⟨A, c, (hg.block g hlt (fun e => by have := hr _ e.symm; omega)).trans hh, fun hn => ?_⟩, h2, h3, h4, h5⟩
  obtain ⟨b, off, rfl, hne, hcell⟩ := hc hn
  exact ⟨b, off, rfl, hne, fun j hj => hg.cell (hcell j hj) (fun e => by have := hr _ e.symm; simp only at this; omega)⟩

/-! ### what the methods answer -/
def belowN (x n : Int) : Int := if n < 1 then 0 else x % n
/-- What Next(n) answers when a numbers have been handed out. -/
def nx (xs : List Int) (a n : Int) : Int :=
  if xs.length = 0 then belowN ((a + 1) * 7919) n
  else belowN (belowN (xs.getD (a % xs.length).toNat 0) 1073741824 + a / xs.length * (7919 + a % xs.length)) n
theorem belowN_lo (x n : Int) : 0 ≤ belowN x n := by
  unfold belowN
  split
  · omega
  · exact Int.emod_nonneg _ (by omega)
theorem belowN_lt (x n : Int) (h : 1 ≤ n) : belowN x n < n := by
  unfold belowN
  rw [if_neg (by omega)]
  exact Int.emod_lt_of_pos _ (by omega)
theorem nx_lo (xs : List Int) (a n : Int) : 0 ≤ nx xs a n := by unfold nx; split <;> exact belowN_lo _ _
theorem nx_lt (xs : List Int) (a n : Int) (h : 1 ≤ n) : nx xs a n < n := by unfold nx; split <;> exact belowN_lt _ _ h
theorem round_bd (a m : Int) (h0 : 0 ≤ a) (h1 : a ≤ 1000000000) (hm : 1 ≤ m) : 0 ≤ a / m * (7919 + a % m) ∧ a / m * (7919 + a % m) ≤ 8000000000000 := by
  have hq : 0 ≤ a / m := Int.ediv_nonneg h0 (by omega)
  have hr := Int.emod_nonneg a (show m ≠ 0 by omega)
  have hr2 := Int.emod_lt_of_pos a (show 0 < m by omega)
  have hqa : a / m ≤ a := Int.ediv_le_self m h0
  have hmq : a / m * m ≤ a := by have := Int.mul_ediv_add_emod a m; rw [Int.mul_comm] at this; omega
  have h3 : a / m * (a % m) ≤ a / m * m := Int.mul_le_mul_of_nonneg_left (by omega) hq
  constructor
  · exact Int.mul_nonneg hq (by omega)
  · rw [Int.mul_add]; omega

end Go.Sc

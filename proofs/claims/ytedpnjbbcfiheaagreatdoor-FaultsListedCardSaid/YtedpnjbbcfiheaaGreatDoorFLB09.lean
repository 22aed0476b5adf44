import Derived.Test.YtedpnjbbcfiheaaGreatDoorFLB01
set_option linter.unusedSimpArgs false
set_option linter.unusedSectionVars false
set_option linter.unusedVariables false
/- Literals of slices as arguments; frames with a stream and a row of the call's own. -/
namespace Go.Sc
open Go.RowKit
theorem rd_alloc (w : World) (vs : List Value) (t : TypeId) (n : Nat) (h : vs.length = n) (hn : n ≤ maxLen) : Rd (w.alloc (.cells vs.toArray t)) 1 (.slice (some ⟨w.heap.size, 0, none⟩) n n) n vs := by
  refine ⟨_, n, rfl, Nat.le_refl _, hn, by omega, fun _ => ⟨_, _, rfl, fun j u hj => ?_⟩⟩
  rw [Nat.zero_add, World.cell?_alloc_at _ _ _ _ rfl]
  simpa using hj
theorem gb_own {a w w1 : World} {g : Nat} {row : Option Nat} (h : a.grownBy w (some g)) (hg : w.grownBy w1 row) (hr : ∀ k, row = some k → a.heap.size ≤ k) : a.grownBy w1 (some g) :=
  ⟨hg.os.trans h.os, hg.tape.trans h.tape, hg.output.trans h.output, Nat.le_trans h.size hg.size, fun i hi hne => (hg.block i (Nat.lt_of_lt_of_le hi h.size) (fun e => by have := hr i e.symm; omega)).trans (h.block i hi hne)⟩
theorem own_strm {w w1 : World} {base g : Nat} {e : TypeId} {size n : Nat} {v : Value} {xs : List Value} (h : w.ownsRow base e size v n xs) (hg : w.grownBy w1 (some g)) (hb : g < base) : w1.ownsRow base e size v n xs :=
  own_grown h hg (fun k hk e => by injection hk with hk; have := (own_lt h e).1; omega)
theorem strm_drew {T : TypeId} {w : World} {g : Nat} {xs : List Int} {a : Int} (h : Strm T w g xs a) : Strm T w.drew g xs a := h.mono rfl fun _ _ _ hu => hu
theorem gb_drew {a w : World} {row : Option Nat} (h : a.grownBy w row) : a.grownBy w.drew row := ⟨h.os, h.tape, h.output, h.size, h.block⟩
/-- Block f holds two cells, x and y, of type T. -/
def Box2 (T : TypeId) (w : World) (f : Nat) (x y : Value) : Prop := w.heap[f]? = some (.cells #[x, y] T (0, 0))
theorem Box2.lt {T : TypeId} {w : World} {f : Nat} {x y : Value} (h : Box2 T w f x y) : f < w.heap.size := (Array.getElem?_eq_some_iff.1 h).1
theorem Box2.new (T : TypeId) (w : World) (x y : Value) : Box2 T (w.alloc (.cells #[x, y] T)) w.heap.size x y := heap_alloc_new w _
theorem Box2.cell0 {T : TypeId} {w : World} {f : Nat} {x y : Value} (h : Box2 T w f x y) : w.cell? ⟨f, 0, none⟩ = some x := by
  simp only [World.cell?, show w.heap[f]? = _ from h]; rfl
theorem Box2.cell1 {T : TypeId} {w : World} {f : Nat} {x y : Value} (h : Box2 T w f x y) : w.cell? ⟨f, 1, none⟩ = some y := by
  simp only [World.cell?, show w.heap[f]? = _ from h]; rfl
theorem Box2.frozen {T : TypeId} {w : World} {f : Nat} {x y : Value} (h : Box2 T w f x y) (j : Nat) : w.frozen? ⟨f, j, none⟩ = false := by
  simp [World.frozen?, show w.heap[f]? = _ from h]
theorem Box2.grown {T : TypeId} {w w' : World} {f : Nat} {x y : Value} {row : Option Nat} (h : Box2 T w f x y) (hg : w.grownBy w' row) (hr : ∀ k, row = some k → k ≠ f) : Box2 T w' f x y :=
  (hg.block f h.lt (fun e => hr f e.symm rfl)).trans h
theorem Box2.below {T : TypeId} {w w' : World} {f : Nat} {x y : Value} (h : Box2 T w f x y) (hb : Below w.heap.size w w') : Box2 T w' f x y := (hb.block f h.lt).trans h
theorem Box2.alloc {T : TypeId} {w : World} {f : Nat} {x y : Value} (h : Box2 T w f x y) (o : Obj) : Box2 T (w.alloc o) f x y := h.below ((Below.refl _ _).alloc (Nat.le_refl _) o)
theorem Box2.drew {T : TypeId} {w : World} {f : Nat} {x y : Value} (h : Box2 T w f x y) : Box2 T w.drew f x y := h
theorem Box2.set0 {T : TypeId} {w : World} {f : Nat} {x y : Value} (h : Box2 T w f x y) (u : Value) : Box2 T (w.setCell ⟨f, 0, none⟩ u) f u y := heap_setCell_same w f 0 _ T u h
theorem Box2.set1 {T : TypeId} {w : World} {f : Nat} {x y : Value} (h : Box2 T w f x y) (u : Value) : Box2 T (w.setCell ⟨f, 1, none⟩ u) f x u := heap_setCell_same w f 1 _ T u h
theorem Box2.other {T : TypeId} {w : World} {f : Nat} {x y : Value} (h : Box2 T w f x y) (p : Addr) (hp : p.block ≠ f) (u : Value) : Box2 T (w.setCell p u) f x y := (Below.heap_setCell _ _ _ _ (fun e => hp e.symm)).trans h
/-- bits of a word, as the stream deals them -/
def rowG (xs : List Int) (a : Int) (m : Nat) : List UInt8 := (List.range m).map fun (i : Nat) => if nx xs (a + i) 2 = 0 then (48 : UInt8) else 49
theorem rowG_succ (xs : List Int) (a : Int) (m : Nat) : rowG xs a (m + 1) = rowG xs a m ++ [if nx xs (a + m) 2 = 0 then (48 : UInt8) else 49] := by
  simp [rowG, List.range_succ]
theorem rowG_len (xs : List Int) (a : Int) (m : Nat) : (rowG xs a m).length = m := by simp [rowG]
def strB (l : List UInt8) : ByteArray := ⟨l.toArray⟩
theorem strB_size (l : List UInt8) : (strB l).size = l.length := by show l.toArray.size = _; simp
theorem strB_app (l r : List UInt8) : strB l ++ strB r = strB (l ++ r) := by
  apply ByteArray.ext
  rw [ByteArray.data_append]
  simp [strB]
def testG (xs : List Int) (a : Int) (z m : Nat) : List ByteArray := (List.range m).map fun (i : Nat) => strB (rowG xs (a + i * z) z)
theorem testG_succ (xs : List Int) (a : Int) (z m : Nat) : testG xs a z (m + 1) = testG xs a z m ++ [strB (rowG xs (a + m * z) z)] := by
  simp [testG, List.range_succ]
theorem testG_len (xs : List Int) (a : Int) (z m : Nat) : (testG xs a z m).length = m := by simp [testG]
end Go.Sc

/- Walks of the stream's methods: Range, Flip, Pick, Some, Odd. -/
import Derived.Test.YtedpnjbbcfiheaaGreatDoorW1
set_option linter.unusedVariables false
namespace Go.Proofs.YtedpnjbbcfiheaaGreatDoor
open Go.RowKit Go.Sc

def rngN (xs : List Int) (a lo hi : Int) : Int := if hi < lo then lo else lo + nx xs a (hi - lo + 1)
def rngA (a lo hi : Int) : Int := if hi < lo then a else a + 1

theorem Range_any (g : Nat) (xs : List Int) (a lo hi : Int) (w : World) (hs : Strm TS w g xs a) (ha : a < 1000000000) (h0 : -1000000000 ≤ lo) (h0' : lo ≤ 1000000000) (h1 : lo ≤ hi) (h2 : hi ≤ 2000000000) :
    Calls Tryz.prog 23 #[.pointer (some ⟨g, 0, none⟩), .int .i64 lo, .int .i64 hi] w fun e w' => e = .returned (.int .i64 (lo + nx xs a (hi - lo + 1))) ∧ Strm TS w' g xs (a + 1) ∧ w.grownBy w' (some g) := by
  have n0 := nx_lo xs a (hi - lo + 1)
  have n1 := nx_lt xs a (hi - lo + 1) (by omega)
  go_enter Tryz.func23, Tryz.ntmps23
  go_wp2_with fail
  refine (Next_any g xs a _ _ hs ha (by omega) (by omega)).mono ?_
  rintro e w' ⟨rfl, h⟩
  go_wp2
  go_ret
  exact ⟨rfl, h⟩

theorem Flip_any (g : Nat) (xs : List Int) (a n : Int) (w : World) (hs : Strm TS w g xs a) (ha : a < 1000000000) (h0 : 1 ≤ n) (h2 : n ≤ 1000000000) :
    Calls Tryz.prog 22 #[.pointer (some ⟨g, 0, none⟩), .int .i64 n] w fun e w' => e = .returned (.bool (nx xs a n == 0)) ∧ Strm TS w' g xs (a + 1) ∧ w.grownBy w' (some g) := by
  have n0 := nx_lo xs a n
  have n1 := nx_lt xs a n (by omega)
  go_enter Tryz.func22, Tryz.ntmps22
  go_wp2_with fail
  refine (Next_any g xs a _ _ hs ha (by omega) (by omega)).mono ?_
  rintro e w' ⟨rfl, h⟩
  go_wp2
  go_ret
  exact ⟨rfl, h⟩

/-- l is a slice of numbers in blocks other than the stream's. -/
theorem Pick_any (g : Nat) (xs : List Int) (a : Int) (v : Value) (n : Nat) (l : List Int) (w : World) (hs : Strm TS w g xs a) (ha : a < 1000000000) (h0 : 1 ≤ n) (h2 : n ≤ 1000) (hr : Rd w 1 v n (l.map (.int .i64)))
    (hne : ∀ A m c, v = .slice (some A) m c → A.block ≠ g) :
    Calls Tryz.prog 20 #[.pointer (some ⟨g, 0, none⟩), v] w fun e w' => e = .returned (.int .i64 (l.getD (nx xs a n).toNat 0)) ∧ Strm TS w' g xs (a + 1) ∧ w.grownBy w' (some g) := by
  have n0 := nx_lo xs a n
  have n1 := nx_lt xs a n (by omega)
  obtain ⟨A, c, rfl, h3, h4, h5, h6⟩ := hr
  obtain ⟨b, off, rfl, hc⟩ := h6 (by omega)
  have hne' := hne _ _ _ rfl
  have hl : l.length = n := by simpa using h5
  have hx : w.cell? ⟨b, off + (nx xs a n).toNat, none⟩ = some (.int .i64 (l.getD (nx xs a n).toNat 0)) := hc _ _ (by
    have : (nx xs a n).toNat < l.length := by omega
    simp [List.getElem?_eq_getElem this, List.getD_eq_getElem?_getD])
  have HN := Lib.hid hl
  clear hl h5 h6 hc hne
  go_enter Tryz.func20, Tryz.ntmps20
  go_wp2_with fail
  refine (Next_any g xs a _ _ hs ha (by omega) (by omega)).mono ?_
  rintro e w' ⟨rfl, h, hg⟩
  have hx' := hg.cell hx (fun e => hne' (by simpa using e))
  clear hx
  go_wp2
  go_ret
  exact ⟨rfl, h, hg⟩

theorem Some_any (g : Nat) (xs : List Int) (a : Int) (v : Value) (n : Nat) (l : List ByteArray) (w : World) (hs : Strm TS w g xs a) (ha : a < 1000000000) (h0 : 1 ≤ n) (h2 : n ≤ 1000) (hr : Rd w 1 v n (l.map .string))
    (hne : ∀ A m c, v = .slice (some A) m c → A.block ≠ g) :
    Calls Tryz.prog 51 #[.pointer (some ⟨g, 0, none⟩), v] w fun e w' => e = .returned (.string (l.getD (nx xs a n).toNat ByteArray.empty)) ∧ Strm TS w' g xs (a + 1) ∧ w.grownBy w' (some g) := by
  have n0 := nx_lo xs a n
  have n1 := nx_lt xs a n (by omega)
  obtain ⟨A, c, rfl, h3, h4, h5, h6⟩ := hr
  obtain ⟨b, off, rfl, hc⟩ := h6 (by omega)
  have hne' := hne _ _ _ rfl
  have hl : l.length = n := by simpa using h5
  have hx : w.cell? ⟨b, off + (nx xs a n).toNat, none⟩ = some (.string (l.getD (nx xs a n).toNat ByteArray.empty)) := hc _ _ (by
    have : (nx xs a n).toNat < l.length := by omega
    simp [List.getElem?_eq_getElem this, List.getD_eq_getElem?_getD])
  have HN := Lib.hid hl
  clear hl h5 h6 hc hne
  go_enter Tryz.func51, Tryz.ntmps51
  go_wp2_with fail
  refine (Next_any g xs a _ _ hs ha (by omega) (by omega)).mono ?_
  rintro e w' ⟨rfl, h, hg⟩
  have hx' := hg.cell hx (fun e => hne' (by simpa using e))
  clear hx
  go_wp2
  go_ret
  exact ⟨rfl, h, hg⟩

end Go.Proofs.YtedpnjbbcfiheaaGreatDoor

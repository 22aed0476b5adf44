/- The library's contracts in the words of this claim: Contains, Equal, Clone at numbers and strings. -/
import Derived.Test.YtedpnjbbcfiheaaGreatDoorShelf
import Derived.Test.YtedpnjbbcfiheaaGreatDoorL2
set_option linter.unusedVariables false
namespace Go.Proofs.YtedpnjbbcfiheaaGreatDoor
open Go.RowKit Go.Sc
def conB (xs : List Int) (x : Int) : Bool := xs.contains x
theorem conB_iff (xs : List Int) (x : Int) : conB xs x = true ↔ x ∈ xs := by simp [conB]
theorem rd_int_at {w : World} {n b off : Nat} {k : IntKind} {xs : List Int} (h3 : (xs.map (Value.int k)).length = n * 1) (hc : ∀ j u, (xs.map (Value.int k))[j]? = some u → w.cell? ⟨b, off + j, none⟩ = some u) (j : Nat) (hj : j < xs.length) : w.cell? ⟨b, off + j, none⟩ = some (.int k (xs.getD j 0)) := by
  have := hc j _ (getD_map_int k xs j hj)
  rw [this, List.getD_eq_getElem?_getD]
theorem Contains_any (v : Value) (n : Nat) (xs : List Int) (x : Int) (w : World) (hr : Rd w 1 v n (xs.map (.int .i64))) (hn : n ≤ 9223372036854775807) :
    Calls Tryz.prog 44 #[v, .int .i64 x] w fun e w' => e = .returned (.bool (conB xs x)) ∧ w = w' := by
  obtain ⟨A, c, rfl, h1, h2, h3, h4⟩ := hr
  have hl : xs.length = n := by simpa using h3
  rcases Nat.eq_zero_or_pos n with h0 | h0
  · subst h0
    obtain rfl : xs = [] := List.eq_nil_of_length_eq_zero hl
    exact (Tryz.slices_Contains_int_empty A c x w).mono fun _ _ ⟨a, b⟩ => ⟨a, b.symm⟩
  · obtain ⟨b, off, rfl, hc⟩ := h4 h0
    refine (Tryz.slices_Contains_int b off n c xs x w (by omega) hn (rd_int_at h3 hc)).mono fun _ _ ⟨a, b⟩ => ⟨?_, b.symm⟩
    rw [a, List.take_of_length_le (by omega), conB]
def eqB (xs ys : List Int) : Bool := xs == ys
theorem Equal_int_any (v u : Value) (n m : Nat) (xs ys : List Int) (w : World) (hr : Rd w 1 v n (xs.map (.int .i64))) (hs : Rd w 1 u m (ys.map (.int .i64))) (hn : n ≤ 9223372036854775807) (hm : m ≤ 9223372036854775807) :
    Calls Tryz.prog 17 #[v, u] w fun e w' => e = .returned (.bool (eqB xs ys)) ∧ ∃ q, w' = w.drewN q := by
  obtain ⟨A, c, rfl, h1, h2, h3, h4⟩ := hr
  obtain ⟨A2, c2, rfl, g1, g2, g3, g4⟩ := hs
  have hl : xs.length = n := by simpa using h3
  have hl2 : ys.length = m := by simpa using g3
  by_cases h0 : n = 0
  · subst h0
    obtain rfl : xs = [] := List.eq_nil_of_length_eq_zero hl
    refine (Tryz.slices_Equal_int_empty A A2 c m c2 w hm).mono fun _ _ ⟨a, b⟩ => ⟨?_, 0, b⟩
    rw [a, eqB]
    subst hl2
    cases ys <;> simp
  · by_cases h0' : m = 0
    · subst h0'
      obtain rfl : ys = [] := List.eq_nil_of_length_eq_zero hl2
      refine (Tryz.slices_Equal_int_lens A A2 n c 0 c2 w h0).mono fun _ _ ⟨a, b⟩ => ⟨?_, 0, b⟩
      rw [a, eqB]
      cases xs with
      | nil => simp at hl; omega
      | cons x xs => rfl
    · obtain ⟨b, off, rfl, hc⟩ := h4 (by omega)
      obtain ⟨b2, off2, rfl, hc2⟩ := g4 (by omega)
      refine (Tryz.slices_Equal_int b off n c b2 off2 m c2 xs ys w (by omega) (by omega) hn hm (rd_int_at h3 hc) (rd_int_at g3 hc2)).mono fun _ _ ⟨a, b⟩ => ⟨?_, b⟩
      rw [a, List.take_of_length_le (by omega), List.take_of_length_le (by omega), eqB]
theorem rd_str_at {w : World} {n b off : Nat} {xs : List ByteArray} (h3 : (xs.map Value.string).length = n * 1) (hc : ∀ j u, (xs.map Value.string)[j]? = some u → w.cell? ⟨b, off + j, none⟩ = some u) (j : Nat) (hj : j < xs.length) : w.cell? ⟨b, off + j, none⟩ = some (.string (xs.getD j ByteArray.empty)) := by
  have := hc j (.string (xs.getD j ByteArray.empty)) (by simp [List.getElem?_eq_getElem hj, List.getD_eq_getElem?_getD])
  exact this
def eqS (xs ys : List ByteArray) : Bool := decide (xs = ys)
theorem Equal_str_any (v u : Value) (n m : Nat) (xs ys : List ByteArray) (w : World) (hr : Rd w 1 v n (xs.map .string)) (hs : Rd w 1 u m (ys.map .string)) (hn : n ≤ 9223372036854775807) (hm : m ≤ 9223372036854775807) :
    Calls Tryz.prog 18 #[v, u] w fun e w' => e = .returned (.bool (eqS xs ys)) ∧ ∃ q, w' = w.drewN q := by
  obtain ⟨A, c, rfl, h1, h2, h3, h4⟩ := hr
  obtain ⟨A2, c2, rfl, g1, g2, g3, g4⟩ := hs
  have hl : xs.length = n := by simpa using h3
  have hl2 : ys.length = m := by simpa using g3
  by_cases h0 : n = 0
  · subst h0
    obtain rfl : xs = [] := List.eq_nil_of_length_eq_zero hl
    refine (Tryz.slices_Equal_string_empty A A2 c m c2 w hm).mono fun _ _ ⟨a, b⟩ => ⟨?_, 0, b⟩
    rw [a, eqS]
    subst hl2
    cases ys <;> simp
  · by_cases h0' : m = 0
    · subst h0'
      obtain rfl : ys = [] := List.eq_nil_of_length_eq_zero hl2
      refine (Tryz.slices_Equal_string_lens A A2 n c 0 c2 w h0).mono fun _ _ ⟨a, b⟩ => ⟨?_, 0, b⟩
      rw [a, eqS]
      cases xs with
      | nil => simp at hl; omega
      | cons x xs => simp
    · obtain ⟨b, off, rfl, hc⟩ := h4 (by omega)
      obtain ⟨b2, off2, rfl, hc2⟩ := g4 (by omega)
      refine (Tryz.slices_Equal_string b off n c b2 off2 m c2 xs ys w (by omega) (by omega) hn hm (rd_str_at h3 hc) (rd_str_at g3 hc2)).mono fun _ _ ⟨a, b⟩ => ⟨?_, b⟩
      rw [a, List.take_of_length_le (by omega), List.take_of_length_le (by omega), eqS]
end Go.Proofs.YtedpnjbbcfiheaaGreatDoor

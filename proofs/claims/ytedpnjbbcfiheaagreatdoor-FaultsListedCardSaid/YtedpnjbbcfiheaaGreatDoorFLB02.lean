import Derived.Laws.BitsAllLaws
import Derived.Laws.BitsLemmas
import Derived.Test.YtedpnjbbcfiheaaGreatDoorFLB01
set_option linter.unusedSimpArgs false
set_option linter.unusedSectionVars false
set_option linter.unusedVariables false
/- Bits of 64-bit numbers, as natural numbers. -/
namespace Go.Sc
open Go.RowKit

def bit1 (c : UInt8) : Nat := if c = 49 then 1 else 0
/-- The bits of a string as a number: its byte i is bit i. -/
def rowN : List UInt8 → Nat
  | [] => 0
  | c :: l => bit1 c + 2 * rowN l
theorem bit1_le (c : UInt8) : bit1 c ≤ 1 := by unfold bit1; split <;> omega
theorem rowN_lt (l : List UInt8) : rowN l < 2 ^ l.length := by
  induction l with
  | nil => simp [rowN]
  | cons c l ih => have := bit1_le c; simp only [rowN, List.length_cons, Nat.pow_succ]; omega
theorem rowN_snoc (l : List UInt8) (c : UInt8) : rowN (l ++ [c]) = rowN l + bit1 c * 2 ^ l.length := by
  induction l with
  | nil => simp [rowN]
  | cons d l ih => simp only [List.cons_append, rowN, List.length_cons, ih, Nat.pow_succ, Nat.mul_add]; rw [← Nat.mul_assoc (bit1 c), Nat.mul_comm (bit1 c * 2 ^ l.length) 2]; omega
theorem rowN_bit (l : List UInt8) (i : Nat) : (rowN l).testBit i = decide (l[i]? = some 49) := by
  induction l generalizing i with
  | nil => simp [rowN]
  | cons c l ih =>
    cases i with
    | zero =>
      simp only [rowN, Nat.testBit_zero, List.getElem?_cons_zero, Option.some.injEq, decide_eq_decide]
      unfold bit1
      split <;> rename_i h <;> simp [h] <;> omega
    | succ i =>
      rw [List.getElem?_cons_succ, ← ih, rowN, Nat.testBit_succ]
      congr 1
      have := bit1_le c
      omega
theorem wrap_u64 (n : Int) (h0 : 0 ≤ n) (h1 : n < 18446744073709551616) : IntKind.u64.wrap n = n := by
  simp only [IntKind.wrap, IntKind.bits, IntKind.signed]
  simp
  omega
theorem pow_le64 (i : Nat) (h : i < 64) : 2 ^ i ≤ 9223372036854775808 := by
  have : 2 ^ i ≤ 2 ^ 63 := Nat.pow_le_pow_right (by decide) (by omega)
  simpa using this
theorem or_step (q i : Nat) (c : UInt8) (hq : q < 2 ^ i) (hi : i < 64) (hc : c = 48 ∨ c = 49) :
    bits .or .u64 (q : Int) (IntKind.u64.wrap (((c.toNat : Int) - 48) * 2 ^ i)) = ((q + bit1 c * 2 ^ i : Nat) : Int) := by
  have hp := pow_le64 i hi
  have e : (((c.toNat : Int) - 48) * 2 ^ i) = ((bit1 c * 2 ^ i : Nat) : Int) := by
    rcases hc with rfl | rfl
    · simp [bit1]
    · simp [bit1]
  have hb : bit1 c * 2 ^ i ≤ 2 ^ i := by have := bit1_le c; rcases Nat.eq_zero_or_pos (bit1 c) with h | h; · rw [h]; simp
                                         · rw [show bit1 c = 1 by omega]; simp
  rw [e, wrap_u64 _ (by omega) (by omega), u64_or_nat _ _ (by omega) (by omega), Nat.or_comm, nat_join i _ _ (by simp) hq, Nat.add_comm]
def bits01 (s : ByteArray) : Bool := s.data.toList.all fun c => c == 48 || c == 49
theorem bits01_at {s : ByteArray} (h : bits01 s = true) (i : Nat) (hi : i < s.size) : s[i]'hi = 48 ∨ s[i]'hi = 49 := by
  have := List.all_eq_true.1 h (s[i]'hi) (by
    have : s[i]'hi = s.data.toList[i]'(by simpa using hi) := rfl
    rw [this]; exact List.getElem_mem _)
  simpa using this
theorem take_snoc (s : ByteArray) (k : Nat) (h : k < s.size) : s.data.toList.take (k + 1) = s.data.toList.take k ++ [s[k]'h] := by
  rw [List.take_succ_eq_append_getElem (by simpa using h)]; rfl
def u64s (ms : List Nat) : List Value := ms.map fun (m : Nat) => .int .u64 (m : Int)
theorem u64s_len (ms : List Nat) : (u64s ms).length = ms.length := by simp [u64s]
theorem u64s_at (ms : List Nat) (j : Nat) (h : j < ms.length) : (u64s ms)[j]? = some (.int .u64 ((ms[j]?.getD 0 : Nat) : Int)) := by simp [u64s, List.getElem?_eq_getElem h]
theorem u64s_set (ms : List Nat) (j m : Nat) : (u64s ms).set j (.int .u64 (m : Int)) = u64s (ms.set j m) := by simp [u64s, List.map_set]
theorem own_cell_u64 {w : World} {base g n cap : Nat} {e : TypeId} {l : List Nat} (h : w.ownsRow base e 1 (.slice (some ⟨g, 0, none⟩) n cap) n (u64s l)) (j : Nat) (hj : j < n) : w.cell? ⟨g, j, none⟩ = some (.int .u64 ((l[j]?.getD 0 : Nat) : Int)) := by
  rw [h.cellAt j (by omega)]
  have := h.1
  exact u64s_at l j (by rw [u64s_len] at this; omega)
theorem own_set_u64 {w : World} {base g n cap : Nat} {e : TypeId} {l : List Nat} (h : w.ownsRow base e 1 (.slice (some ⟨g, 0, none⟩) n cap) n (u64s l)) (j x : Nat) :
    (w.setCell ⟨g, j, none⟩ (.int .u64 (x : Int))).ownsRow base e 1 (.slice (some ⟨g, 0, none⟩) n cap) n (u64s (l.set j x)) := by
  have := (h.stored j (.int .u64 (x : Int))).1
  rwa [u64s_set] at this

theorem u64s_one (ms : List Nat) : ∀ u ∈ u64s ms, u.oneCell' = true := by
  intro u hu
  obtain ⟨m, _, rfl⟩ := List.mem_map.1 hu
  rfl
end Go.Sc

/- Walks of small functions: Out, in, isShort, short, Bits (of both), whole. -/
import Derived.Test.YtedpnjbbcfiheaaGreatDoorW3
import Derived.Test.YtedpnjbbcfiheaaGreatDoorShelf
import Derived.Test.YtedpnjbbcfiheaaGreatDoorL2
import Derived.Lib.IndexAny
set_option linter.unusedVariables false
namespace Go.Proofs.YtedpnjbbcfiheaaGreatDoor
open Go.RowKit Go.Sc

def outB (n lo hi : Int) : Bool := decide (n < lo) || decide (hi < n)
theorem outB_true {n lo hi : Int} : outB n lo hi = true ↔ n < lo ∨ hi < n := by simp [outB]
theorem outB_false {n lo hi : Int} : outB n lo hi = false ↔ lo ≤ n ∧ n ≤ hi := by simp [outB]
theorem Out_any (n lo hi : Int) (w : World) : Calls Tryz.prog 124 #[.int .i64 n, .int .i64 lo, .int .i64 hi] w fun e w' => e = .returned (.bool (outB n lo hi)) ∧ w = w' := by
  go_enter Tryz.func124, Tryz.ntmps124
  go_wp2
  all_goals go_ret
  all_goals exact ⟨ret_bool (by simp [outB, *]), rfl⟩
theorem in_any (n lo hi : Int) (w : World) : Calls Tryz.prog 79 #[.int .i64 n, .int .i64 lo, .int .i64 hi] w fun e w' => e = .returned (.bool (!outB n lo hi)) ∧ w = w' := by
  go_enter Tryz.func79, Tryz.ntmps79
  go_wp2
  all_goals go_ret
  all_goals exact ⟨ret_bool (by rw [Bool.eq_iff_iff]; simp [outB]; omega), rfl⟩
theorem isShort_any (k : Int) (w : World) : Calls Tryz.prog 76 #[.int .i64 k] w fun e w' => e = .returned (.bool (!outB k 3 5)) ∧ w = w' := by
  go_enter Tryz.func76, Tryz.ntmps76
  go_wp2_with (go_at_call 124; refine (Out_any _ _ _ _).mono ?_; rintro e w' ⟨rfl, rfl⟩)
  go_ret
  exact ⟨rfl, rfl⟩
theorem short_any (k : Int) (w : World) : Calls Tryz.prog 80 #[.int .i64 k] w fun e w' => e = .returned (.bool (!outB k 3 5)) ∧ w = w' := by
  go_enter Tryz.func80, Tryz.ntmps80
  go_wp2_with (go_at_call 79; refine (in_any _ _ _ _).mono ?_; rintro e w' ⟨rfl, rfl⟩)
  go_ret
  exact ⟨rfl, rfl⟩
theorem dropWhile_empty {α : Type} (p : α → Bool) (l : List α) : (l.dropWhile p).isEmpty = l.all p := by
  induction l with
  | nil => rfl
  | cons x l ih => cases h : p x <;> simp [List.dropWhile_cons, h, ih]
theorem all_dropWhile {α : Type} (p : α → Bool) (l : List α) : (l.dropWhile p).all p = l.all p := by
  induction l with
  | nil => rfl
  | cons x l ih => cases h : p x <;> simp [List.dropWhile_cons, h, ih]
theorem trim01 (s : ByteArray) : (Lib.trimS s.data.toList [48, 49]).isEmpty = bits01 s := by
  have h : ∀ l : List UInt8, (Lib.trimS l [48, 49]).isEmpty = l.all fun c => [48, 49].contains c := by
    intro l
    simp only [Lib.trimS, Lib.trimLeftS, Lib.trimRightS]
    rw [dropWhile_empty, List.all_reverse, all_dropWhile, List.all_reverse]
  rw [h, bits01]
  congr 1
  funext c
  simp [Bool.beq_eq_decide_eq]
theorem Bits_any (s : ByteArray) (w : World) (hs : s.size ≤ 9223372036854775807) : Calls Tryz.prog 160 #[.string s] w fun e w' => e = .returned (.bool (bits01 s)) ∧ Below w.heap.size w w' := by
  go_enter Tryz.func160, Tryz.ntmps160
  go_wp2_with fail
  refine (Any.strings_Trim_laid Tryz.lays160 (by kernel_rfl) s ⟨#[48, 49]⟩ w hs (by decide) (by intro j b h; match j, h with | 0, h => (simp at h; subst h; decide) | 1, h => (simp at h; subst h; decide) | j + 2, h => simp at h)).mono ?_
  rintro e w' ⟨rfl, hb⟩
  have ht := Lib.hid (trim01 s)
  go_wp2
  go_ret
  exact ⟨ret_bool ht.out, hb⟩
theorem whole_wrap (n : Nat) (h : n ≤ 64) : IntKind.u64.wrap (IntKind.u64.wrap (2 ^ n) - 1) = 2 ^ n - 1 := by
  have hall : ∀ m, m < 65 → IntKind.u64.wrap (IntKind.u64.wrap (2 ^ m) - 1) = 2 ^ m - 1 := by decide
  exact hall n (by omega)
def onesN (long : Int) : Nat := 2 ^ long.toNat - 1
theorem ones_cast (long : Int) : ((2 : Int) ^ long.toNat - 1) = ((onesN long : Nat) : Int) := by
  unfold onesN
  rw [Int.natCast_sub (Nat.two_pow_pos _)]
  simp
theorem ones_lt (long : Int) (h : long ≤ 64) : onesN long < 18446744073709551616 := by
  unfold onesN
  have : 2 ^ long.toNat ≤ 2 ^ 64 := Nat.pow_le_pow_right (by decide) (by omega)
  simp at this
  have := Nat.two_pow_pos long.toNat
  omega
theorem whole_any (n : Int) (h0 : 0 ≤ n) (h1 : n ≤ 64) (w : World) : Calls Tryz.prog 59 #[.int .i64 n] w fun e w' => e = .returned (.int .u64 ((onesN n : Nat) : Int)) ∧ w = w' := by
  go_enter Tryz.func59, Tryz.ntmps59
  go_wp2
  go_ret
  exact ⟨ret_int (by rw [← ones_cast]; exact whole_wrap _ (by omega)), rfl⟩
def onlyB (s some : ByteArray) : Bool := s.data.toList.all fun c => some.data.toList.contains c
def onlyTo (s some : ByteArray) (k : Nat) : Prop := (s.data.toList.take k).all (fun c => some.data.toList.contains c) = true
theorem onlyTo_succ {s some : ByteArray} {k : Nat} (h : onlyTo s some k) (hk : k < s.size) (hi : 0 ≤ Lib.indexByte some.data.toList (s[k]'hk)) : onlyTo s some (k + 1) := by
  unfold onlyTo at *
  have hl : k < s.data.toList.length := by simpa using hk
  rw [List.take_succ_eq_append_getElem hl, List.all_append, h]
  have : s.data.toList[k] = s[k]'hk := rfl
  rw [this]
  simp only [List.all_cons, List.all_nil, Bool.and_true, Bool.true_and]
  rw [Lib.contains_iff_indexByte]
  simpa using hi
theorem only_no {s some : ByteArray} {k : Nat} (hk : k < s.size) (hi : Lib.indexByte some.data.toList (s[k]'hk) < 0) : onlyB s some = false := by
  unfold onlyB
  rw [List.all_eq_false]
  refine ⟨s[k]'hk, ?_, ?_⟩
  · have : s[k]'hk = s.data.toList[k]'(by simpa using hk) := rfl
    rw [this]; exact List.getElem_mem _
  · rw [Lib.contains_iff_indexByte]
    simp
    omega
theorem only_any (s some : ByteArray) (w : World) (hs : s.size ≤ 9223372036854775807) : Calls Tryz.prog 164 #[.string s, .string some] w fun e w' => e = .returned (.bool (onlyB s some)) ∧ w = w' := by
  go_enter Tryz.func164, Tryz.ntmps164
  go_wp2
  go_loop [8] (fun i => ∃ k : Nat, k ≤ s.size ∧ i = .int .i64 k ∧ onlyTo s some k) (fun i => s.size - (intOf i).toNat)
  case atStart => exact ⟨0, by omega, rfl, by simp [onlyTo]⟩
  case round =>
    obtain ⟨k, hk, rfl, hall⟩ := hrel
    have HA := Lib.hid hall
    clear hall
    by_cases hlt : k < s.size
    · go_wp2_with (go_at_call 199; refine (Tryz.strings_IndexByte _ _ _).mono ?_; rintro e w' ⟨rfl, rfl⟩)
      · have hi : Lib.indexByte some.data.toList (s[k]'hlt) < 0 := by assumption
        go_ret
        exact ⟨ret_bool (only_no hlt hi).symm, rfl⟩
      · have hi : 0 ≤ Lib.indexByte some.data.toList (s[k]'hlt) := by assumption
        go_round
        case rel => exact ⟨k + 1, by omega, by go_num, onlyTo_succ HA.out hlt hi⟩
        case measure => simp [intOf]; omega
    · go_wp2
      go_ret
      have := HA.out
      rw [onlyTo, List.take_of_length_le (by simp; omega)] at this
      exact ⟨ret_bool this.symm, rfl⟩
theorem only01 (s : ByteArray) : onlyB s ⟨#[48, 49]⟩ = bits01 s := by
  unfold onlyB bits01
  congr 1
  funext c
  simp [Bool.beq_eq_decide_eq]
theorem rBits_any (s : ByteArray) (w : World) (hs : s.size ≤ 9223372036854775807) : Calls Tryz.prog 117 #[.string s] w fun e w' => e = .returned (.bool (bits01 s)) ∧ w = w' := by
  have ht := Lib.hid (only01 s)
  go_enter Tryz.func117, Tryz.ntmps117
  go_wp2_with fail
  refine (only_any s _ _ hs).mono ?_
  rintro e w' ⟨rfl, rfl⟩
  go_wp2
  go_ret
  exact ⟨ret_bool ht.out, rfl⟩
end Go.Proofs.YtedpnjbbcfiheaaGreatDoor

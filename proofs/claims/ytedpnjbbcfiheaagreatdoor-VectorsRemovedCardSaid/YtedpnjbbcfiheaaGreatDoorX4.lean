/- Walk of OnesCount64. -/
import Derived.Test.YtedpnjbbcfiheaaGreatDoorX3
set_option linter.unusedVariables false
namespace Go.Proofs.YtedpnjbbcfiheaaGreatDoor
open Go.RowKit Go.Sc
def sw1 (x : Nat) : Nat := (x / 2 &&& 6148914691236517205) + (x &&& 6148914691236517205)
def sw2 (x : Nat) : Nat := (x / 4 &&& 3689348814741910323) + (x &&& 3689348814741910323)
def sw3 (x : Nat) : Nat := (x / 16 + x) &&& 1085102592571150095
theorem sw1_le (x : Nat) : sw1 x ≤ 12297829382473034410 := by
  unfold sw1
  have h1 : x / 2 &&& 6148914691236517205 ≤ 6148914691236517205 := Nat.and_le_right
  have h2 : x &&& 6148914691236517205 ≤ 6148914691236517205 := Nat.and_le_right
  omega
theorem sw2_le (x : Nat) : sw2 x ≤ 7378697629483820646 := by
  unfold sw2
  have h1 : x / 4 &&& 3689348814741910323 ≤ 3689348814741910323 := Nat.and_le_right
  have h2 : x &&& 3689348814741910323 ≤ 3689348814741910323 := Nat.and_le_right
  omega
theorem sw3_le (x : Nat) : sw3 x ≤ 1085102592571150095 := Nat.and_le_right
theorem sw1_eq (x : Nat) (h : x < 18446744073709551616) : IntKind.u64.wrap (bits .and .u64 ((x : Int) / 2) 6148914691236517205 + bits .and .u64 (x : Int) 6148914691236517205) = ((sw1 x : Nat) : Int) := by
  have e1 : bits .and .u64 (((x / 2 : Nat)) : Int) ((6148914691236517205 : Nat) : Int) = _ := u64_and_nat (x / 2) 6148914691236517205 (by omega) (by decide)
  have e2 : bits .and .u64 (x : Int) ((6148914691236517205 : Nat) : Int) = _ := u64_and_nat x 6148914691236517205 h (by decide)
  have hle := sw1_le x
  rw [show ((x : Int) / 2) = ((x / 2 : Nat) : Int) by omega]
  rw [show (6148914691236517205 : Int) = ((6148914691236517205 : Nat) : Int) from rfl, e1, e2]
  rw [show (((x / 2 &&& 6148914691236517205 : Nat) : Int) + ((x &&& 6148914691236517205 : Nat) : Int)) = ((sw1 x : Nat) : Int) by unfold sw1; exact (Int.natCast_add _ _).symm]
  exact wrap_u64 _ (by omega) (by omega)
theorem sw2_eq (x : Nat) (h : x < 18446744073709551616) : IntKind.u64.wrap (bits .and .u64 ((x : Int) / 4) 3689348814741910323 + bits .and .u64 (x : Int) 3689348814741910323) = ((sw2 x : Nat) : Int) := by
  have e1 : bits .and .u64 (((x / 4 : Nat)) : Int) ((3689348814741910323 : Nat) : Int) = _ := u64_and_nat (x / 4) 3689348814741910323 (by omega) (by decide)
  have e2 : bits .and .u64 (x : Int) ((3689348814741910323 : Nat) : Int) = _ := u64_and_nat x 3689348814741910323 h (by decide)
  have hle := sw2_le x
  rw [show ((x : Int) / 4) = ((x / 4 : Nat) : Int) by omega]
  rw [show (3689348814741910323 : Int) = ((3689348814741910323 : Nat) : Int) from rfl, e1, e2]
  rw [show (((x / 4 &&& 3689348814741910323 : Nat) : Int) + ((x &&& 3689348814741910323 : Nat) : Int)) = ((sw2 x : Nat) : Int) by unfold sw2; exact (Int.natCast_add _ _).symm]
  exact wrap_u64 _ (by omega) (by omega)
theorem sw3_eq (x : Nat) (h : x ≤ 7378697629483820646) : bits .and .u64 (IntKind.u64.wrap ((x : Int) / 16 + (x : Int))) 1085102592571150095 = ((sw3 x : Nat) : Int) := by
  rw [wrap_u64 _ (by omega) (by omega), show ((x : Int) / 16 + (x : Int)) = ((x / 16 + x : Nat) : Int) by omega]
  exact u64_and_nat (x / 16 + x) 1085102592571150095 (by omega) (by decide)
theorem and127 (x : Nat) (h : x < 9223372036854775808) : bits .and .i64 (x : Int) 127 = ((x % 128 : Nat) : Int) := by
  have e := (bits_nat .i64 63 (by decide) (fun n h0 h1 => by rw [IntKind.wrap_i64]; simp at h1; omega) x 127 (by simpa using h) (by decide)).1
  rw [show (127 : Int) = ((127 : Nat) : Int) from rfl, e, show (127 : Nat) = 2 ^ 7 - 1 from rfl, Nat.and_two_pow_sub_one_eq_mod]
theorem Ones_any (m : Nat) (w : World) (h : m < 18446744073709551616) :
    Calls Tryz.prog 58 #[.int .u64 (m : Int)] w fun e w' => e = .returned (.int .i64 ((popF 64 m : Nat) : Int)) ∧ w = w' := by
  have H1 := Lib.hid (sw1_eq m h)
  have l1 := sw1_le m
  have H2 := Lib.hid (sw2_eq (sw1 m) (by omega))
  have l2 := sw2_le (sw1 m)
  have H3 := Lib.hid (sw3_eq (sw2 (sw1 m)) l2)
  have l3 := sw3_le (sw2 (sw1 m))
  have HP : Hid (ones64 m = popF 64 m) := ones64_popF m h
  have HO : Hid (ones64 m = (sw3 (sw2 (sw1 m)) + sw3 (sw2 (sw1 m)) / 256 + (sw3 (sw2 (sw1 m)) + sw3 (sw2 (sw1 m)) / 256) / 65536 + (sw3 (sw2 (sw1 m)) + sw3 (sw2 (sw1 m)) / 256 + (sw3 (sw2 (sw1 m)) + sw3 (sw2 (sw1 m)) / 256) / 65536) / 4294967296) % 128) := rfl
  clear l1 l2 l3 h
  go_enter Tryz.func58, Tryz.ntmps58
  go_wp2
  go_ret
  refine ⟨ret_int ?_, rfl⟩
  rw [H1.out, H2.out, H3.out, ← HP.out, HO.out]
  have l3 := sw3_le (sw2 (sw1 m))
  generalize sw3 (sw2 (sw1 m)) = x at *
  rw [wrap_u64 ((x : Int) + (x : Int) / 256) (by omega) (by omega)]
  rw [wrap_u64 ((x : Int) + (x : Int) / 256 + ((x : Int) + (x : Int) / 256) / 65536) (by omega) (by omega)]
  rw [wrap_u64 ((x : Int) + (x : Int) / 256 + ((x : Int) + (x : Int) / 256) / 65536 + ((x : Int) + (x : Int) / 256 + ((x : Int) + (x : Int) / 256) / 65536) / 4294967296) (by omega) (by omega)]
  rw [IntWalk.wrap64_in ((x : Int) + (x : Int) / 256 + ((x : Int) + (x : Int) / 256) / 65536 + ((x : Int) + (x : Int) / 256 + ((x : Int) + (x : Int) / 256) / 65536) / 4294967296) ⟨by omega, by omega⟩]
  rw [show ((x : Int) + (x : Int) / 256 + ((x : Int) + (x : Int) / 256) / 65536 + ((x : Int) + (x : Int) / 256 + ((x : Int) + (x : Int) / 256) / 65536) / 4294967296) = ((x + x / 256 + (x + x / 256) / 65536 + (x + x / 256 + (x + x / 256) / 65536) / 4294967296 : Nat) : Int) by omega]
  exact and127 _ (by omega)
end Go.Proofs.YtedpnjbbcfiheaaGreatDoor

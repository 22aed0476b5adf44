/- slices.Compare at numbers. -/
import Derived.Test.YtedpnjbbcfiheaaGreatDoorX5
set_option linter.unusedVariables false
namespace Go.Proofs.YtedpnjbbcfiheaaGreatDoor
open Go.RowKit Go.Sc
def cmpZ (x y : Int) : Int := if x < y then -1 else if y < x then 1 else 0
def cmpL : List Int → List Int → Int
  | [], [] => 0
  | [], _ :: _ => -1
  | _ :: _, [] => 1
  | x :: xs, y :: ys => if cmpZ x y = 0 then cmpL xs ys else cmpZ x y
theorem cmpZ_any (x y : Int) (w : World) : Calls Tryz.prog 123 #[.int .i64 x, .int .i64 y] w fun e w' => e = .returned (.int .i64 (cmpZ x y)) ∧ w = w' :=
  (Tryz.cmp_Compare_int x y w).mono fun _ _ ⟨a, b⟩ => ⟨by rw [a]; rfl, b.symm⟩
set_option maxRecDepth 100000 in
set_option maxHeartbeats 1000000 in
theorem Compare_any (v u : Value) (n m : Nat) (xs ys : List Int) (w : World) (hr : Rd w 1 v n (xs.map (.int .i64))) (hs : Rd w 1 u m (ys.map (.int .i64))) (hn : n ≤ 1000000) (hm : m ≤ 1000000) :
    Calls Tryz.prog 72 #[v, u] w fun e w' => e = .returned (.int .i64 (cmpL xs ys)) ∧ w = w' := by
  have hl : xs.length = n := by have := hr.len; simpa using this
  have hl2 : ys.length = m := by have := hs.len; simpa using this
  obtain ⟨A, c, rfl, h1, h2, h3, h4⟩ := hr
  obtain ⟨A2, c2, rfl, g1, g2, g3, g4⟩ := hs
  have HL := Lib.hid hl
  have HL2 := Lib.hid hl2
  clear h3 g3 hl hl2
  go_enter Tryz.func72, Tryz.ntmps72
  go_wp2_with fail
  go_loop [11] (fun i => ∃ k : Nat, k ≤ n ∧ k ≤ m ∧ i = .int .i64 k ∧ Hid (cmpL xs ys = cmpL (xs.drop k) (ys.drop k))) (fun i => n - (intOf i).toNat)
  case atStart => exact ⟨0, by omega, by omega, rfl, rfl⟩
  case round =>
    obtain ⟨k, hk, hkm, rfl, HK⟩ := hrel
    by_cases hlt : k < n
    · obtain ⟨b, off, rfl, hc⟩ := h4 (by omega)
      obtain ⟨x, hx⟩ : ∃ x, xs[k]? = some x := ⟨xs[k]'(by rw [HL.out]; omega), List.getElem?_eq_getElem _⟩
      have c1 := hc k (.int .i64 x) (by simp [hx])
      have HX := Lib.hid (drop_at hx)
      clear hc hx
      by_cases hlt2 : k < m
      · obtain ⟨b2, off2, rfl, hc2⟩ := g4 (by omega)
        obtain ⟨y, hy⟩ : ∃ y, ys[k]? = some y := ⟨ys[k]'(by rw [HL2.out]; omega), List.getElem?_eq_getElem _⟩
        have c2 := hc2 k (.int .i64 y) (by simp [hy])
        have HZ : Hid (cmpL xs ys = if cmpZ x y = 0 then cmpL (xs.drop (k + 1)) (ys.drop (k + 1)) else cmpZ x y) := by
          show _ = _
          rw [HK.out, HX.out, drop_at hy]; rfl
        clear hc2 hy HK
        by_cases h0 : cmpZ x y = 0
        · have HZ2 : Hid (cmpL xs ys = cmpL (xs.drop (k + 1)) (ys.drop (k + 1))) := by show _ = _; rw [HZ.out, if_pos h0]
          go_wp2_with fail
          refine (cmpZ_any x y w).mono ?_
          rintro e w' ⟨rfl, rfl⟩
          rw [h0]
          go_wp2_with fail
          go_round
          case rel => exact ⟨k + 1, by omega, by omega, by go_num, HZ2⟩
          case measure => simp [intOf]; omega
        · have HZ2 : Hid (cmpL xs ys = cmpZ x y) := by show _ = _; rw [HZ.out, if_neg h0]
          have e0 : (cmpZ x y == 0) = false := beq_eq_false_iff_ne.2 h0
          go_wp2_with fail
          refine (cmpZ_any x y w).mono ?_
          rintro e w' ⟨rfl, rfl⟩
          generalize cmpZ x y = r at *
          go_wp2_with fail
          go_ret
          exact ⟨ret_int HZ2.out.symm, rfl⟩
      · have HZ : Hid (cmpL xs ys = 1) := by
          show _ = _
          rw [HK.out, HX.out, show ys.drop k = [] from List.drop_eq_nil_of_le (by rw [HL2.out]; omega)]; rfl
        go_wp2_with fail
        go_ret
        exact ⟨ret_int HZ.out.symm, rfl⟩
    · obtain rfl : k = n := by omega
      by_cases hlt2 : k < m
      · have HZ : Hid (cmpL xs ys = -1) := by
          show _ = _
          rw [HK.out, List.drop_eq_nil_of_le (by rw [HL.out]; omega)]
          obtain ⟨y, hy⟩ : ∃ y, ys[k]? = some y := ⟨ys[k]'(by rw [HL2.out]; omega), List.getElem?_eq_getElem _⟩
          rw [drop_at hy]; rfl
        go_wp2_with fail
        go_ret
        exact ⟨ret_int HZ.out.symm, rfl⟩
      · have HZ : Hid (cmpL xs ys = 0) := by
          show _ = _
          rw [HK.out, List.drop_eq_nil_of_le (by rw [HL.out]; omega), List.drop_eq_nil_of_le (by rw [HL2.out]; omega)]; rfl
        go_wp2_with fail
        go_ret
        exact ⟨ret_int HZ.out.symm, rfl⟩
end Go.Proofs.YtedpnjbbcfiheaaGreatDoor

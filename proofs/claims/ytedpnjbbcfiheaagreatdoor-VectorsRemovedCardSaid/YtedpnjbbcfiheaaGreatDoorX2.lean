/- IndexFunc and ContainsFunc at numbers, whatever function is handed over that only makes memory. -/
import Derived.Test.YtedpnjbbcfiheaaGreatDoorX1
import Derived.Outline
import Derived.RowKit
import Derived.Lib.Hide
set_option linter.unusedVariables false
namespace Go.Proofs.YtedpnjbbcfiheaaGreatDoor
open Go.RowKit Go.Sc
/-- the function value answers p x at every x of the list, whatever has been made since -/
def Ans (P : Program) (w : World) (F : FuncId) (cap : Array Value) (val : Int → Value) (p : Int → Bool) (xs : List Int) : Prop :=
  ∀ W, Below w.heap.size w W → ∀ x ∈ xs, Calls P F (#[val x] ++ cap) W fun e w' => e = .returned (.bool (p x)) ∧ Below W.heap.size W w'
def goF {α : Type} (p : α → Bool) : Nat → List α → Int
  | _, [] => -1
  | i, x :: r => if p x = true then (i : Int) else goF p (i + 1) r
def idxF {α : Type} (p : α → Bool) (xs : List α) : Int := goF p 0 xs
theorem goF_lo {α : Type} (p : α → Bool) (i : Nat) (xs : List α) : -1 ≤ goF p i xs := by
  induction xs generalizing i with
  | nil => simp [goF]
  | cons x r ih =>
    rw [goF]
    split
    · omega
    · exact ih _
theorem goF_any {α : Type} (p : α → Bool) (i : Nat) (xs : List α) : decide (0 ≤ goF p i xs) = xs.any p := by
  induction xs generalizing i with
  | nil => simp [goF]
  | cons x r ih =>
    rw [goF, List.any_cons]
    cases hp : p x
    · rw [if_neg (by decide), ih]; rfl
    · rw [if_pos rfl]; simp
def anyF {α : Type} (p : α → Bool) (xs : List α) : Bool := xs.any p
set_option maxRecDepth 100000 in
theorem IndexFunc_any (v : Value) (n : Nat) (xs : List Int) (F : FuncId) (cap : Array Value) (p : Int → Bool) (w : World) (hr : Rd w 1 v n (xs.map (.int .i64))) (hn : n ≤ 1000000) (hA : Ans Tryz.prog w F cap (.int .i64) p xs) (he : ∀ args W, (callFunc F args).run Tryz.prog W = .ok (.enter F args) W) :
    Calls Tryz.prog 118 #[v, .func (.func F) #[] cap] w fun e w' => e = .returned (.int .i64 (idxF p xs)) ∧ Below w.heap.size w w' := by
  have hl : xs.length = n := by have := hr.len; simpa using this
  have HR := Lib.hid hr
  obtain ⟨A, c, rfl, h1, h2, h3, h4⟩ := hr
  have HA := Lib.hid hA
  clear hA h3
  go_enter Tryz.func118, Tryz.ntmps118
  go_wp2_with fail
  go_loopw [8] (fun i wr => ∃ k : Nat, k ≤ n ∧ i = .int .i64 k ∧ Hid (idxF p xs = goF p k (xs.drop k)) ∧ Below w.heap.size w wr) (fun i _ => n - (intOf i).toNat)
  case atStart => exact ⟨0, by omega, rfl, rfl, Below.refl _ _⟩
  case round =>
    obtain ⟨k, hk, rfl, HK, hbel⟩ := hrel
    by_cases hlt : k < n
    · obtain ⟨b, off, rfl, hc⟩ := h4 (by omega)
      obtain ⟨x, hx⟩ : ∃ x, xs[k]? = some x := ⟨xs[k]'(by omega), List.getElem?_eq_getElem _⟩
      have c1 := cell_below hbel _ _ (hc k (.int .i64 x) (by simp [hx]))
      have HX : Hid (idxF p xs = if p x = true then (k : Int) else goF p (k + 1) (xs.drop (k + 1))) := by show _ = _; rw [HK.out, drop_at hx, goF]
      have HC := Lib.hid (HA.out _ hbel x (List.mem_of_getElem? hx))
      clear hx hc HK
      go_wp2_with fail
      refine HC.out.mono ?_
      rintro e w2 ⟨rfl, hb2⟩
      cases hp : p x
      · have HY : Hid (idxF p xs = goF p (k + 1) (xs.drop (k + 1))) := by show _ = _; rw [HX.out, hp]; rfl
        go_wp2_with fail
        go_roundw
        case rel => exact ⟨k + 1, by omega, by go_num, HY, hbel.trans (hb2.mono hbel.size)⟩
        case measure => simp [intOf]; omega
      · have HY : Hid (idxF p xs = (k : Int)) := by show _ = _; rw [HX.out, hp]; rfl
        go_wp2_with fail
        go_ret
        exact ⟨ret_int HY.out.symm, hbel.trans (hb2.mono hbel.size)⟩
    · obtain rfl : k = n := by omega
      have HY : Hid (idxF p xs = -1) := by show _ = _; rw [HK.out, List.drop_eq_nil_of_le (by omega)]; rfl
      go_wp2_with fail
      go_ret
      exact ⟨ret_int HY.out.symm, hbel⟩
theorem ContainsFunc_any (v : Value) (n : Nat) (xs : List Int) (F : FuncId) (cap : Array Value) (p : Int → Bool) (w : World) (hr : Rd w 1 v n (xs.map (.int .i64))) (hn : n ≤ 1000000) (hA : Ans Tryz.prog w F cap (.int .i64) p xs) (he : ∀ args W, (callFunc F args).run Tryz.prog W = .ok (.enter F args) W) :
    Calls Tryz.prog 121 #[v, .func (.func F) #[] cap] w fun e w' => e = .returned (.bool (anyF p xs)) ∧ Below w.heap.size w w' := by
  have hx := goF_lo p 0 xs
  have HG := Lib.hid (goF_any p 0 xs)
  have HI : Hid (idxF p xs = goF p 0 xs) := rfl
  have HR := Lib.hid hr
  have HA := Lib.hid hA
  clear hr hA
  go_enter Tryz.func121, Tryz.ntmps121
  go_wp2_with fail
  refine (IndexFunc_any v n xs F cap p w HR.out hn HA.out he).mono ?_
  rintro e w2 ⟨rfl, hb2⟩
  rw [HI.out]
  generalize goF p 0 xs = i at *
  go_wp2_with fail
  go_ret
  exact ⟨ret_bool (by rw [anyF]; exact HG.out), hb2⟩
end Go.Proofs.YtedpnjbbcfiheaaGreatDoor

/- IndexFunc and ContainsFunc at 64-bit numbers, whatever function is handed over that only makes memory. -/
import Derived.Test.YtedpnjbbcfiheaaGreatDoorX2
import Derived.Test.YtedpnjbbcfiheaaGreatDoorL3
import Derived.Shelf.Abstract
import Derived.Outline
import Derived.RowKit
import Derived.Lib.Hide
set_option linter.unusedVariables false
namespace Go.Proofs.YtedpnjbbcfiheaaGreatDoor
open Go.RowKit Go.Sc
def AnsN (P : Program) (w : World) (F : FuncId) (cap : Array Value) (p : Nat → Bool) (xs : List Nat) : Prop :=
  ∀ W, Below w.heap.size w W → ∀ x ∈ xs, Calls P F (#[.int .u64 ((x : Nat) : Int)] ++ cap) W fun e w' => e = .returned (.bool (p x)) ∧ Below W.heap.size W w'
set_option maxRecDepth 100000 in
theorem IndexFuncN_any (v : Value) (n : Nat) (xs : List Nat) (F : FuncId) (cap : Array Value) (p : Nat → Bool) (w : World) (hr : Rd w 1 v n (u64s xs)) (hn : n ≤ 1000000) (hA : AnsN Tryz.prog w F cap p xs) (he : ∀ args W, (callFunc F args).run Tryz.prog W = .ok (.enter F args) W) :
    Calls Tryz.prog 161 #[v, .func (.func F) #[] cap] w fun e w' => e = .returned (.int .i64 (idxF p xs)) ∧ Below w.heap.size w w' := by
  have hl : xs.length = n := by have := hr.len; simpa [u64s] using this
  have HR := Lib.hid hr
  obtain ⟨A, c, rfl, h1, h2, h3, h4⟩ := hr
  have HA := Lib.hid hA
  clear hA h3
  go_enter Tryz.func161, Tryz.ntmps161
  go_wp2_with fail
  go_loopw [8] (fun i wr => ∃ k : Nat, k ≤ n ∧ i = .int .i64 k ∧ Hid (idxF p xs = goF p k (xs.drop k)) ∧ Below w.heap.size w wr) (fun i _ => n - (intOf i).toNat)
  case atStart => exact ⟨0, by omega, rfl, rfl, Below.refl _ _⟩
  case round =>
    obtain ⟨k, hk, rfl, HK, hbel⟩ := hrel
    by_cases hlt : k < n
    · obtain ⟨b, off, rfl, hc⟩ := h4 (by omega)
      obtain ⟨x, hx⟩ : ∃ x, xs[k]? = some x := ⟨xs[k]'(by omega), List.getElem?_eq_getElem _⟩
      have c1 := cell_below hbel _ _ (hc k (.int .u64 ((x : Nat) : Int)) (by simp [u64s, hx]))
      have HX : Hid (idxF p xs = if p x = true then (k : Int) else goF p (k + 1) (xs.drop (k + 1))) := by show _ = _; rw [HK.out, drop_at hx, goF]
      have HC := Lib.hid (HA.out _ hbel x (List.mem_of_getElem? hx))
      clear hx hc HK
      go_wp2_with fail
      refine HC.out.mono ?_
      rintro e w2 ⟨rfl, hb2⟩
      cases hp : p x
      · have HY : Hid (idxF p xs = goF p (k + 1) (xs.drop (k + 1))) := by show _ = _; rw [HX.out, hp]; rfl
        go_wp2_with fail
        go_roundw
        case rel => exact ⟨k + 1, by omega, by go_num, HY, hbel.trans (hb2.mono hbel.size)⟩
        case measure => simp [intOf]; omega
      · have HY : Hid (idxF p xs = (k : Int)) := by show _ = _; rw [HX.out, hp]; rfl
        go_wp2_with fail
        go_ret
        exact ⟨ret_int HY.out.symm, hbel.trans (hb2.mono hbel.size)⟩
    · obtain rfl : k = n := by omega
      have HY : Hid (idxF p xs = -1) := by show _ = _; rw [HK.out, List.drop_eq_nil_of_le (by omega)]; rfl
      go_wp2_with fail
      go_ret
      exact ⟨ret_int HY.out.symm, hbel⟩
theorem ContainsFuncN_any (v : Value) (n : Nat) (xs : List Nat) (F : FuncId) (cap : Array Value) (p : Nat → Bool) (w : World) (hr : Rd w 1 v n (u64s xs)) (hn : n ≤ 1000000) (hA : AnsN Tryz.prog w F cap p xs) (he : ∀ args W, (callFunc F args).run Tryz.prog W = .ok (.enter F args) W) :
    Calls Tryz.prog 112 #[v, .func (.func F) #[] cap] w fun e w' => e = .returned (.bool (anyF p xs)) ∧ Below w.heap.size w w' := by
  have hx := goF_lo p 0 xs
  have HG := Lib.hid (goF_any p 0 xs)
  have HI : Hid (idxF p xs = goF p 0 xs) := rfl
  have HR := Lib.hid hr
  have HA := Lib.hid hA
  clear hr hA
  go_enter Tryz.func112, Tryz.ntmps112
  go_wp2_with fail
  refine (IndexFuncN_any v n xs F cap p w HR.out hn HA.out he).mono ?_
  rintro e w2 ⟨rfl, hb2⟩
  rw [HI.out]
  generalize goF p 0 xs = i at *
  go_wp2_with fail
  go_ret
  exact ⟨ret_bool (by rw [anyF]; exact HG.out), hb2⟩
/-! ### enough -/
def missB (some m : Nat) : Bool := m != 0 && (m &&& some) == 0
def enoughB (ms : List Nat) (some : Nat) : Bool := ms.all fun m => !missB some m
theorem enClos_any (m some g : Nat) (W : World) (hc : W.cell? ⟨g, 0, none⟩ = Option.some (.int .u64 (some : Int))) (h1 : m < 18446744073709551616) (h2 : some < 18446744073709551616) :
    Calls Tryz.prog 113 #[.int .u64 (m : Int), .pointer (Option.some ⟨g, 0, none⟩)] W fun e w' => e = .returned (.bool (missB some m)) ∧ W = w' := by
  have HA := Lib.hid (u64_and_nat m some h1 h2)
  by_cases h0 : m = 0
  · subst h0
    have HM : Hid (missB some 0 = false) := by show _ = _; simp [missB]
    go_enter Tryz.func113, Tryz.ntmps113
    go_wp2
    go_ret
    exact ⟨ret_bool HM.out.symm, rfl⟩
  · have e0 : ((m : Int) == 0) = false := beq_eq_false_iff_ne.2 (by omega)
    have HM : Hid (missB some m = (((m &&& some : Nat) : Int) == 0)) := by
      show _ = _
      rw [missB, bne_iff_ne.2 h0, Bool.true_and]
      by_cases hz : m &&& some = 0
      · rw [hz]; rfl
      · rw [beq_eq_false_iff_ne.2 hz, beq_eq_false_iff_ne.2 (by omega)]
    go_enter Tryz.func113, Tryz.ntmps113
    go_wp2
    go_ret
    exact ⟨ret_bool (by rw [HM.out, ← HA.out, bne, e0]; rfl), rfl⟩
theorem enough_any (v : Value) (n : Nat) (ms : List Nat) (some : Nat) (w : World) (hr : Rd w 1 v n (u64s ms)) (hn : n ≤ 1000000) (hms : ∀ m ∈ ms, m < 18446744073709551616) (h2 : some < 18446744073709551616) :
    Calls Tryz.prog 60 #[v, .int .u64 (some : Int)] w fun e w' => e = .returned (.bool (enoughB ms some)) ∧ Below w.heap.size w w' := by
  have hbl : Below w.heap.size w (w.alloc (.cells #[.int .u64 (some : Int)] 73)) := (Below.refl _ _).alloc (Nat.le_refl _) _
  have HR := Lib.hid (hr.below hbl)
  have hcell : (w.alloc (.cells #[.int .u64 (some : Int)] 73)).cell? ⟨w.heap.size, 0, none⟩ = Option.some (.int .u64 (some : Int)) := by rw [World.cell?_alloc_at _ _ _ _ rfl]; rfl
  have HA : Hid (AnsN Tryz.prog (w.alloc (.cells #[.int .u64 (some : Int)] 73)) 113 #[.pointer (Option.some ⟨w.heap.size, 0, none⟩)] (missB some) ms) := by
    intro W hb x hx
    exact (enClos_any x some w.heap.size W (cell_below hb _ _ hcell) (hms x hx) h2).mono fun _ _ ⟨e1, e2⟩ => ⟨e1, e2 ▸ Below.refl _ _⟩
  have HE : Hid (∀ args W, (callFunc 113 args).run Tryz.prog W = .ok (.enter 113 args) W) := enters_of Tryz.func113 (by kernel_rfl) rfl
  have HX : Hid ((!anyF (missB some) ms) = enoughB ms some) := by
    show _ = _
    rw [anyF, enoughB, List.not_any_eq_all_not]
  clear hr hcell hms
  go_enter Tryz.func60, Tryz.ntmps60
  go_wp2_with fail
  refine (ContainsFuncN_any v n ms _ _ (missB some) _ HR.out hn HA.out HE.out).mono ?_
  rintro e w2 ⟨rfl, hb2⟩
  go_wp2_with fail
  go_ret
  exact ⟨ret_bool HX.out, hbl.trans (hb2.mono (by simp))⟩
end Go.Proofs.YtedpnjbbcfiheaaGreatDoor

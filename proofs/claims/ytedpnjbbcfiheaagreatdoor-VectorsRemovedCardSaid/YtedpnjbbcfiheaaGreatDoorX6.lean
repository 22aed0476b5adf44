/- IndexFunc and ContainsFunc at lists of numbers; covers. -/
import Derived.Test.YtedpnjbbcfiheaaGreatDoorX3
set_option linter.unusedVariables false
namespace Go.Proofs.YtedpnjbbcfiheaaGreatDoor
open Go.RowKit Go.Sc
/-- a slice of slices of numbers -/
def RdL (w : World) (v : Value) (css : List (List Int)) : Prop :=
  ∃ A c, v = .slice A css.length c ∧ css.length ≤ c ∧ c ≤ maxLen ∧ (0 < css.length → ∃ b off, A = some ⟨b, off, none⟩ ∧ ∀ j cl, css[j]? = some cl → ∃ u, w.cell? ⟨b, off + j, none⟩ = some u ∧ Rd w 1 u cl.length (cl.map (.int .i64)))
theorem RdL.below {w w' : World} {v : Value} {css : List (List Int)} (h : RdL w v css) (hb : Below w.heap.size w w') : RdL w' v css := by
  obtain ⟨A, c, rfl, h1, h2, h3⟩ := h
  refine ⟨A, c, rfl, h1, h2, fun hn => ?_⟩
  obtain ⟨b, off, rfl, hc⟩ := h3 hn
  refine ⟨b, off, rfl, fun j f hj => ?_⟩
  obtain ⟨u, e1, e2⟩ := hc j f hj
  exact ⟨u, cell_below hb _ _ e1, e2.below hb⟩
def AnsL (P : Program) (w : World) (F : FuncId) (cap : Array Value) (p : List Int → Bool) (css : List (List Int)) : Prop :=
  ∀ W, Below w.heap.size w W → ∀ c ∈ css, ∀ u, Rd W 1 u c.length (c.map (.int .i64)) → Calls P F (#[u] ++ cap) W fun e w' => e = .returned (.bool (p c)) ∧ Below W.heap.size W w'
set_option maxRecDepth 100000 in
theorem IndexFuncL_any (v : Value) (css : List (List Int)) (F : FuncId) (cap : Array Value) (p : List Int → Bool) (w : World) (hr : RdL w v css) (hn : css.length ≤ 1000000) (hA : AnsL Tryz.prog w F cap p css) (he : ∀ args W, (callFunc F args).run Tryz.prog W = .ok (.enter F args) W) :
    Calls Tryz.prog 165 #[v, .func (.func F) #[] cap] w fun e w' => e = .returned (.int .i64 (idxF p css)) ∧ Below w.heap.size w w' := by
  obtain ⟨A, c, rfl, h1, h2, h4⟩ := hr
  have HA := Lib.hid hA
  clear hA
  go_enter Tryz.func165, Tryz.ntmps165
  go_wp2_with fail
  go_loopw [8] (fun i wr => ∃ k : Nat, k ≤ css.length ∧ i = .int .i64 k ∧ Hid (idxF p css = goF p k (css.drop k)) ∧ Below w.heap.size w wr) (fun i _ => css.length - (intOf i).toNat)
  case atStart => exact ⟨0, by omega, rfl, rfl, Below.refl _ _⟩
  case round =>
    obtain ⟨k, hk, rfl, HK, hbel⟩ := hrel
    by_cases hlt : k < css.length
    · obtain ⟨b, off, rfl, hc⟩ := h4 (by omega)
      obtain ⟨x, hx⟩ : ∃ x, css[k]? = some x := ⟨css[k]'(by omega), List.getElem?_eq_getElem _⟩
      obtain ⟨u, c0, hu⟩ := hc k x hx
      have c1 := cell_below hbel _ _ c0
      have HX : Hid (idxF p css = if p x = true then (k : Int) else goF p (k + 1) (css.drop (k + 1))) := by show _ = _; rw [HK.out, drop_at hx, goF]
      have HC := Lib.hid (HA.out _ hbel x (List.mem_of_getElem? hx) u (hu.below hbel))
      obtain ⟨A3, c3, rfl, _, _, _, _⟩ := hu
      clear hx hc HK c0
      go_wp2_with fail
      refine HC.out.mono ?_
      rintro e w2 ⟨rfl, hb2⟩
      cases hp : p x
      · have HY : Hid (idxF p css = goF p (k + 1) (css.drop (k + 1))) := by show _ = _; rw [HX.out, hp]; rfl
        go_wp2_with fail
        go_roundw
        case rel => exact ⟨k + 1, by omega, by go_num, HY, hbel.trans (hb2.mono hbel.size)⟩
        case measure => simp [intOf]; omega
      · have HY : Hid (idxF p css = (k : Int)) := by show _ = _; rw [HX.out, hp]; rfl
        go_wp2_with fail
        go_ret
        exact ⟨ret_int HY.out.symm, hbel.trans (hb2.mono hbel.size)⟩
    · obtain rfl : k = css.length := by omega
      have HY : Hid (idxF p css = -1) := by show _ = _; rw [HK.out, List.drop_eq_nil_of_le (by omega)]; rfl
      go_wp2_with fail
      go_ret
      exact ⟨ret_int HY.out.symm, hbel⟩
theorem ContainsFuncL_any (v : Value) (css : List (List Int)) (F : FuncId) (cap : Array Value) (p : List Int → Bool) (w : World) (hr : RdL w v css) (hn : css.length ≤ 1000000) (hA : AnsL Tryz.prog w F cap p css) (he : ∀ args W, (callFunc F args).run Tryz.prog W = .ok (.enter F args) W) :
    Calls Tryz.prog 119 #[v, .func (.func F) #[] cap] w fun e w' => e = .returned (.bool (anyF p css)) ∧ Below w.heap.size w w' := by
  have hx := goF_lo p 0 css
  have HG := Lib.hid (goF_any p 0 css)
  have HI : Hid (idxF p css = goF p 0 css) := rfl
  have HR := Lib.hid hr
  have HA := Lib.hid hA
  clear hr hA
  go_enter Tryz.func119, Tryz.ntmps119
  go_wp2_with fail
  refine (IndexFuncL_any v css F cap p w HR.out hn HA.out he).mono ?_
  rintro e w2 ⟨rfl, hb2⟩
  rw [HI.out]
  generalize goF p 0 css = i at *
  go_wp2_with fail
  go_ret
  exact ⟨ret_bool (by rw [anyF]; exact HG.out), hb2⟩
/-! ### covers -/
def missL (vs c : List Int) : Bool := !c.isEmpty && !anyF (conB vs) c
def covB (css : List (List Int)) (vs : List Int) : Bool := !anyF (missL vs) css
theorem covIn_any (x : Int) (vs : List Int) (g : Nat) (A : Option Addr) (c : Nat) (W : World) (hc : W.cell? ⟨g, 0, none⟩ = some (.slice A vs.length c)) (hr : Rd W 1 (.slice A vs.length c) vs.length (vs.map (.int .i64))) (hn : vs.length ≤ 1000000) :
    Calls Tryz.prog 122 #[.int .i64 x, .pointer (some ⟨g, 0, none⟩)] W fun e w' => e = .returned (.bool (conB vs x)) ∧ Below W.heap.size W w' := by
  have HR := Lib.hid hr
  clear hr
  go_enter Tryz.func122, Tryz.ntmps122
  go_wp2_with (go_at_call 44; refine (Contains_any _ _ vs _ _ HR.out (by omega)).mono ?_; rintro e w' ⟨rfl, rfl⟩)
  go_ret
  exact ⟨rfl, Below.refl _ _⟩
theorem covMid_any (u : Value) (cl : List Int) (vs : List Int) (g : Nat) (A : Option Addr) (c : Nat) (W : World) (hu : Rd W 1 u cl.length (cl.map (.int .i64))) (hc : W.cell? ⟨g, 0, none⟩ = some (.slice A vs.length c)) (hr : Rd W 1 (.slice A vs.length c) vs.length (vs.map (.int .i64))) (hn : vs.length ≤ 1000000) (hcn : cl.length ≤ 1000000) :
    Calls Tryz.prog 120 #[u, .pointer (some ⟨g, 0, none⟩)] W fun e w' => e = .returned (.bool (missL vs cl)) ∧ Below W.heap.size W w' := by
  have HU := Lib.hid hu
  obtain ⟨A3, c3, rfl, _, _, _, _⟩ := hu
  have HA : Hid (Ans Tryz.prog W 122 #[.pointer (some ⟨g, 0, none⟩)] (.int .i64) (conB vs) cl) := by
    intro W' hb x hx
    exact covIn_any x vs g A c W' (cell_below hb _ _ hc) (hr.below hb) hn
  have HE : Hid (∀ args W, (callFunc 122 args).run Tryz.prog W = .ok (.enter 122 args) W) := enters_of Tryz.func122 (by kernel_rfl) rfl
  clear hc hr
  by_cases h0 : cl.length = 0
  · have HM : Hid (missL vs cl = false) := by show _ = _; rw [List.eq_nil_of_length_eq_zero h0]; rfl
    go_enter Tryz.func120, Tryz.ntmps120
    go_wp2_with fail
    go_ret
    exact ⟨ret_bool HM.out.symm, Below.refl _ _⟩
  · have HM : Hid (missL vs cl = !anyF (conB vs) cl) := by
      show _ = _
      cases cl with
      | nil => simp at h0
      | cons x r => rfl
    have h1 : 0 < cl.length := by omega
    go_enter Tryz.func120, Tryz.ntmps120
    go_wp2_with (go_at_call 121; refine (ContainsFunc_any _ _ cl _ _ (conB vs) _ HU.out hcn HA.out HE.out).mono ?_; rintro e w2 ⟨rfl, hb2⟩)
    go_ret
    exact ⟨ret_bool HM.out.symm, hb2⟩
theorem covers_any (v u : Value) (css : List (List Int)) (vs : List Int) (w : World) (hr : RdL w v css) (hn : css.length ≤ 1000000) (hcs : ∀ c ∈ css, c.length ≤ 1000000) (hu : Rd w 1 u vs.length (vs.map (.int .i64))) (hvn : vs.length ≤ 1000000) :
    Calls Tryz.prog 71 #[v, u] w fun e w' => e = .returned (.bool (covB css vs)) ∧ Below w.heap.size w w' := by
  have HU := hu
  obtain ⟨A3, c3, rfl, _, _, _, _⟩ := hu
  have hbl : Below w.heap.size w (w.alloc (.cells #[.slice A3 vs.length c3] 22)) := (Below.refl _ _).alloc (Nat.le_refl _) _
  have HR := Lib.hid (hr.below hbl)
  have hcell : (w.alloc (.cells #[.slice A3 vs.length c3] 22)).cell? ⟨w.heap.size, 0, none⟩ = some (.slice A3 vs.length c3) := by rw [World.cell?_alloc_at _ _ _ _ rfl]; rfl
  have HA : Hid (AnsL Tryz.prog (w.alloc (.cells #[.slice A3 vs.length c3] 22)) 120 #[.pointer (some ⟨w.heap.size, 0, none⟩)] (missL vs) css) := by
    intro W hb c hc u hu
    exact covMid_any u c vs w.heap.size A3 c3 W hu (cell_below hb _ _ hcell) ((HU.below hbl).below hb) hvn (hcs c hc)
  have HE : Hid (∀ args W, (callFunc 120 args).run Tryz.prog W = .ok (.enter 120 args) W) := enters_of Tryz.func120 (by kernel_rfl) rfl
  have HX : Hid ((!anyF (missL vs) css) = covB css vs) := rfl
  clear hr hcell HU
  go_enter Tryz.func71, Tryz.ntmps71
  go_wp2_with fail
  refine (ContainsFuncL_any v css _ _ (missL vs) _ HR.out hn HA.out HE.out).mono ?_
  rintro e w2 ⟨rfl, hb2⟩
  go_wp2_with fail
  go_ret
  exact ⟨ret_bool HX.out, hbl.trans (hb2.mono (by simp))⟩
end Go.Proofs.YtedpnjbbcfiheaaGreatDoor

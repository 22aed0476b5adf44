import Derived.Test.YtedpnjbbcfiheaaGreatDoorFLB30
import Derived.Test.YtedpnjbbcfiheaaGreatDoorFLB06
set_option linter.unusedSimpArgs false
set_option linter.unusedSectionVars false
set_option linter.unusedVariables false
/- slices.EqualFunc at faults and at lists of numbers that read alike. -/
set_option linter.unusedVariables false
namespace Go.Proofs.YtedpnjbbcfiheaaGreatDoor
open Go.RowKit Go.Sc
set_option maxRecDepth 100000 in
theorem SameFault_same (a b : Value) (k : Int) (ns : List Int) (w : World) (ha : FV w a k ns) (hb : FV w b k ns) (hn : ns.length ≤ 1000000) :
    Calls Tryz.prog 38 #[a, b] w fun e w' => e = .returned (.bool true) ∧ Below w.heap.size w w' := by
  obtain ⟨nv, rfl, hnv⟩ := ha
  obtain ⟨nu, rfl, hnu⟩ := hb
  have hbw : Below w.heap.size w ((w.alloc (.cells #[.int .i64 k, nv] 60)).alloc (.cells #[.int .i64 k, nu] 60)) := ((Below.refl _ _).alloc (Nat.le_refl _) _).alloc (by simp) _
  have hx1 := (Box2.new 60 w (.int .i64 k) nv).alloc (.cells #[.int .i64 k, nu] 60)
  have hx2 := Box2.new 60 (w.alloc (.cells #[.int .i64 k, nv] 60)) (.int .i64 k) nu
  rw [World.size_alloc] at hx2
  have HE := Lib.hid (EqI_same nv nu _ _ ns ns _ (hnv.below hbw) (hnu.below hbw) hn rfl)
  have c0 := hx1.cell0
  have c1 := hx1.cell1
  have d0 := hx2.cell0
  have d1 := hx2.cell1
  obtain ⟨A1, c1', rfl, _, _, _, _⟩ := hnv
  obtain ⟨A2, c2', rfl, _, _, _, _⟩ := hnu
  have ek : (k == k) = true := beq_iff_eq.2 rfl
  go_enter Tryz.func38, Tryz.ntmps38
  go_wp2_with fail
  refine HE.out.mono ?_
  rintro e w1 ⟨rfl, hb1⟩
  go_wp2_with fail
  go_ret
  exact ⟨rfl, hbw.trans (hb1.mono hbw.size)⟩
set_option maxRecDepth 100000 in
set_option maxHeartbeats 1000000 in
theorem EqF_same (v u : Value) (fs : List (Int × List Int)) (w : World) (hx : RdF w v fs) (hy : RdF w u fs) (hn : fs.length ≤ 1000000) (hns : ∀ f ∈ fs, f.2.length ≤ 1000000) :
    Calls Tryz.prog 37 #[v, u, .func (.func 38) #[] #[]] w fun e w' => e = .returned (.bool true) ∧ Below w.heap.size w w' := by
  obtain ⟨A1, c1, rfl, _, _, h3⟩ := hx
  obtain ⟨A2, c2, rfl, _, _, k3⟩ := hy
  have H3 := Lib.hid h3
  have K3 := Lib.hid k3
  have HNS := Lib.hid hns
  have HE : Hid (∀ args W, (callFunc 38 args).run Tryz.prog W = .ok (.enter 38 args) W) := enters_of Tryz.func38 (by kernel_rfl) rfl
  clear h3 k3 hns
  go_enter Tryz.func37, Tryz.ntmps37
  go_wp2_with fail
  go_loopw [17] (fun i wr => ∃ j : Nat, j ≤ fs.length ∧ i = .int .i64 j ∧ Below w.heap.size w wr) (fun i _ => fs.length - (intOf i).toNat)
  case atStart => exact ⟨0, by omega, rfl, Below.refl _ _⟩
  case round =>
    obtain ⟨j, hj, rfl, hbel⟩ := hrel
    by_cases hlt : j < fs.length
    · obtain ⟨b1, o1, rfl, hc1⟩ := H3.out (by omega)
      obtain ⟨b2, o2, rfl, hc2⟩ := K3.out (by omega)
      obtain ⟨f, hfj⟩ : ∃ f, fs[j]? = some f := ⟨fs[j]'hlt, List.getElem?_eq_getElem _⟩
      obtain ⟨nv, g1, g2, g3⟩ := hc1 j f hfj
      obtain ⟨nu, q1, q2, q3⟩ := hc2 j f hfj
      have hfl := HNS.out f (List.mem_of_getElem? hfj)
      have g1' := cell_below hbel _ _ g1
      have g2' := cell_below hbel _ _ g2
      have q1' := cell_below hbel _ _ q1
      have q2' := cell_below hbel _ _ q2
      have hb1 : Below w.heap.size w ((wr.alloc (.cells #[.int .i64 f.1, nv] 60)).alloc (.cells #[.int .i64 f.1, nu] 60)) := (hbel.alloc hbel.size _).alloc (by have := hbel.size; simp; omega) _
      have hx1 := (Box2.new 60 wr (.int .i64 f.1) nv).alloc (.cells #[.int .i64 f.1, nu] 60)
      have hx2 := Box2.new 60 (wr.alloc (.cells #[.int .i64 f.1, nv] 60)) (.int .i64 f.1) nu
      rw [World.size_alloc] at hx2
      have q1'' := cell_below ((Below.refl wr.heap.size wr).alloc (Nat.le_refl _) (.cells #[.int .i64 f.1, nv] 60)) _ _ q1'
      have q2'' := cell_below ((Below.refl wr.heap.size wr).alloc (Nat.le_refl _) (.cells #[.int .i64 f.1, nv] 60)) _ _ q2'
      have HS := Lib.hid (SameFault_same (.agg #[.int .i64 f.1, nv]) (.agg #[.int .i64 f.1, nu]) f.1 f.2 _ ⟨nv, rfl, g3.below hb1⟩ ⟨nu, rfl, q3.below hb1⟩ hfl)
      have s0 := hx1.cell0
      have s1 := hx1.cell1
      have t0 := hx2.cell0
      have t1 := hx2.cell1
      obtain ⟨A3, c3, rfl, _, _, _, _⟩ := g3
      obtain ⟨A4, c4, rfl, _, _, _, _⟩ := q3
      have hsz := hbel.size
      clear hc1 hc2 hfj g1 g2 q1 q2
      go_wp2_with fail
      refine HS.out.mono ?_
      rintro e w3 ⟨rfl, hb3⟩
      go_wp2_with fail
      go_roundw
      case rel => exact ⟨j + 1, by omega, by go_num, hb1.trans (hb3.mono hb1.size)⟩
      case measure => simp [intOf]; omega
    · obtain rfl : j = fs.length := by omega
      go_wp2_with fail
      go_ret
      exact ⟨rfl, hbel⟩
set_option maxRecDepth 100000 in
set_option maxHeartbeats 1000000 in
theorem EqL_same (v u : Value) (css : List (List Int)) (w : World) (hx : RdL w v css) (hy : RdL w u css) (hn : css.length ≤ 1000000) (hns : ∀ f ∈ css, f.length ≤ 1000000) :
    Calls Tryz.prog 39 #[v, u, .func (.func 17) #[] #[]] w fun e w' => e = .returned (.bool true) ∧ Below w.heap.size w w' := by
  obtain ⟨A1, c1, rfl, _, _, h3⟩ := hx
  obtain ⟨A2, c2, rfl, _, _, k3⟩ := hy
  have H3 := Lib.hid h3
  have K3 := Lib.hid k3
  have HNS := Lib.hid hns
  have HE : Hid (∀ args W, (callFunc 17 args).run Tryz.prog W = .ok (.enter 17 args) W) := enters_of Tryz.func17 (by kernel_rfl) rfl
  clear h3 k3 hns
  go_enter Tryz.func39, Tryz.ntmps39
  go_wp2_with fail
  go_loopw [17] (fun i wr => ∃ j : Nat, j ≤ css.length ∧ i = .int .i64 j ∧ Below w.heap.size w wr) (fun i _ => css.length - (intOf i).toNat)
  case atStart => exact ⟨0, by omega, rfl, Below.refl _ _⟩
  case round =>
    obtain ⟨j, hj, rfl, hbel⟩ := hrel
    by_cases hlt : j < css.length
    · obtain ⟨b1, o1, rfl, hc1⟩ := H3.out (by omega)
      obtain ⟨b2, o2, rfl, hc2⟩ := K3.out (by omega)
      obtain ⟨f, hfj⟩ : ∃ f, css[j]? = some f := ⟨css[j]'hlt, List.getElem?_eq_getElem _⟩
      obtain ⟨nv, g1, g3⟩ := hc1 j f hfj
      obtain ⟨nu, q1, q3⟩ := hc2 j f hfj
      have hfl := HNS.out f (List.mem_of_getElem? hfj)
      have g1' := cell_below hbel _ _ g1
      have q1' := cell_below hbel _ _ q1
      have HS := Lib.hid (EqI_same nv nu _ _ f f wr (g3.below hbel) (q3.below hbel) hfl rfl)
      obtain ⟨A3, c3, rfl, _, _, _, _⟩ := g3
      obtain ⟨A4, c4, rfl, _, _, _, _⟩ := q3
      clear hc1 hc2 hfj g1 q1
      go_wp2_with fail
      refine HS.out.mono ?_
      rintro e w3 ⟨rfl, hb3⟩
      go_wp2_with fail
      go_roundw
      case rel => exact ⟨j + 1, by omega, by go_num, hbel.trans (hb3.mono hbel.size)⟩
      case measure => simp [intOf]; omega
    · obtain rfl : j = css.length := by omega
      go_wp2_with fail
      go_ret
      exact ⟨rfl, hbel⟩
end Go.Proofs.YtedpnjbbcfiheaaGreatDoor

/- Walk of allCaught. -/
import Derived.Test.YtedpnjbbcfiheaaGreatDoorW17
import Derived.Test.YtedpnjbbcfiheaaGreatDoorX6
set_option linter.unusedVariables false
namespace Go.Proofs.YtedpnjbbcfiheaaGreatDoor
open Go.RowKit Go.Sc
theorem info_ints : (Tryz.prog.info? 22).map (fun i => (i.zero, i.size, i.bytes)) = some (some (.slice none 0 0), 1, 24) := by kernel_rfl
/-- a row of the call's own of slices of numbers, each in a row of the call's own -/
def OwnL (w : World) (base : Nat) (v : Value) (css : List (List Int)) : Prop :=
  ∃ us : List Value, w.ownsRow base 22 1 v css.length us ∧ ∀ (j : Nat) (cl : List Int), css[j]? = some cl → ∃ u, us[j]? = some u ∧ w.ownsRow base 3 1 u cl.length (cl.map (.int .i64)) ∧ ∀ g, u.ownBlock = some g → v.ownBlock ≠ some g
theorem OwnL.rdl {w : World} {base : Nat} {v : Value} {css : List (List Int)} (h : OwnL w base v css) : RdL w v css := by
  obtain ⟨us, h1, h2⟩ := h
  obtain ⟨A, c, rfl, r1, r2, r3, r4⟩ := Rd.of_own h1
  refine ⟨A, c, rfl, r1, r2, fun hn => ?_⟩
  obtain ⟨b, off, rfl, hc⟩ := r4 hn
  refine ⟨b, off, rfl, fun j cl hj => ?_⟩
  obtain ⟨u, e1, e2, _⟩ := h2 j cl hj
  exact ⟨u, hc j u e1, Rd.of_own e2⟩
theorem OwnL.nil (w : World) (base : Nat) : OwnL w base (.slice none 0 0) [] := ⟨[], World.ownsRow_nil _ _ _ _, fun j cl h => by simp at h⟩
def catA (ss : List ByteArray) (fs : List (Int × List Int)) : List (List Int) := fs.map fun f => catL ss f.1 f.2
set_option maxRecDepth 100000 in
set_option maxHeartbeats 1000000 in
theorem allCaught_any (tv fv : Value) (n : Nat) (ss : List ByteArray) (fs : List (Int × List Int)) (z : Nat) (w : World) (hr : Rd w 1 tv n (ss.map .string)) (hf : RdF w fv fs) (hok : okTest ss) (hz : ∀ s ∈ ss, s.size = z) (hn : n ≤ 100) (hn1 : 1 ≤ n) (hz64 : z ≤ 64)
    (hfo : ∀ f ∈ fs, FOk n f.1 f.2) (hfl : fs.length ≤ 20000) :
    Calls Tryz.prog 68 #[tv, fv] w fun e w' => ∃ v', e = .returned v' ∧ OwnL w' w.heap.size v' (catA ss fs) ∧ Below w.heap.size w w' := by
  have HR := Lib.hid hr
  have HF := Lib.hid hf
  have HOK := Lib.hid hok
  have HZ := Lib.hid hz
  have HFO := Lib.hid hfo
  obtain ⟨A2, c2, rfl, f1, f2, f3⟩ := hf
  obtain ⟨A, c, rfl, h1, h2, h3, h4⟩ := hr
  clear h3 h4 hok hz hfo
  go_enter Tryz.func68, Tryz.ntmps68
  go_wp2_with fail
  go_loopw [5, 10] (fun v i wr => ∃ k : Nat, k ≤ fs.length ∧ i = .int .i64 k ∧ OwnL wr w.heap.size v (catA ss (fs.take k)) ∧ Below w.heap.size w wr) (fun _ i _ => fs.length - (intOf i).toNat)
  case atStart => exact ⟨0, by omega, rfl, OwnL.nil _ _, Below.refl _ _⟩
  case round =>
    obtain ⟨k, hk, rfl, ⟨us, hown, hels⟩, hbel⟩ := hrel
    by_cases hlt : k < fs.length
    · obtain ⟨b2, off2, rfl, hf2⟩ := f3 (by omega)
      obtain ⟨f, hfk⟩ : ∃ f, fs[k]? = some f := ⟨fs[k]'(by omega), List.getElem?_eq_getElem _⟩
      obtain ⟨nv, g1, g2, g3⟩ := hf2 k f hfk
      have g1' := cell_below hbel _ _ g1
      have g2' := cell_below hbel _ _ g2
      have G3 := Lib.hid g3
      obtain ⟨A3, c3, rfl, _, _, _, _⟩ := g3
      have HT : Hid (catA ss (fs.take (k + 1)) = catA ss (fs.take k) ++ [catL ss f.1 f.2]) := by
        have e : fs[k]'hlt = f := by rw [List.getElem?_eq_getElem hlt] at hfk; simpa using hfk
        show _ = _
        rw [catA, List.take_succ_eq_append_getElem hlt, List.map_append, e]; rfl
      have hll : (catA ss (fs.take k)).length = k := by simp [catA]; omega
      have HE := Lib.hid hels
      have hbw : Below wr.heap.size wr (wr.alloc (.cells #[.int .i64 f.1, .slice A3 f.2.length c3] 60)) := (Below.refl _ _).alloc (Nat.le_refl _) _
      have k0 : (wr.alloc (.cells #[.int .i64 f.1, .slice A3 f.2.length c3] 60)).cell? ⟨wr.heap.size, 0, none⟩ = some (.int .i64 f.1) := by rw [World.cell?_alloc_at _ _ _ _ rfl]; rfl
      have k1 : (wr.alloc (.cells #[.int .i64 f.1, .slice A3 f.2.length c3] 60)).cell? ⟨wr.heap.size, 1, none⟩ = some (.slice A3 f.2.length c3) := by rw [World.cell?_alloc_at _ _ _ _ rfl]; rfl
      have hbe : Below w.heap.size w (wr.alloc (.cells #[.int .i64 f.1, .slice A3 f.2.length c3] 60)) := hbel.alloc hbel.size _
      have HFV : Hid (FV (wr.alloc (.cells #[.int .i64 f.1, .slice A3 f.2.length c3] 60)) (.agg #[.int .i64 f.1, .slice A3 f.2.length c3]) f.1 f.2) := ⟨_, rfl, G3.out.below hbe⟩
      have HCA := Lib.hid (caught_any _ _ n ss f.1 f.2 z _ (HR.out.below hbe) HFV.out HOK.out HZ.out hn hn1 hz64 (HFO.out f (List.mem_of_getElem? hfk)))
      have hsz := hbel.size
      have hbws : (wr.alloc (.cells #[.int .i64 f.1, .slice A3 f.2.length c3] 60)).heap.size = wr.heap.size + 1 := by simp
      clear hfk g1 g2 hels
      go_wp2_with fail
      refine HCA.out.mono ?_
      rintro e w3 ⟨v3, rfl, hown3, hb3⟩
      have hbel3 := hbe.trans (hb3.mono (by omega))
      have hbx := hbw.trans (hb3.mono (by omega))
      have hown' := own_below hown hbx
      rw [hll] at hown'
      have hs3 := hbel3.size
      obtain ⟨A4, c4, rfl, q1, q2, q3, q4⟩ := Rd.of_own hown3
      clear q3 q4
      have HO3 := Lib.hid hown3
      clear hown3
      go_wp2_with (at_builtin; refine app w.heap.size rfl _ _ 52 22 (.slice none 0 0) 1 24 rfl Tryz.underlying52 info_ints rfl (by decide) (by decide) _ _ _ hown' _ 1 rfl rfl rfl (by simp [Value.oneCell']) hs3 (by omega) ?_; intro v1 w8 hown1 hg1 hat)
      go_roundw
      case rel =>
        refine ⟨k + 1, by omega, by go_num, ⟨us ++ [.slice A4 (catL ss f.1 f.2).length c4], ?_, ?_⟩, hbel3.grown hg1 hs3 (fun j hj => (own_lt hown' hj).1)⟩
        · rw [HT.out, List.length_append, hll]; exact hown1
        · intro j cl hj
          have hul : us.length = k := by have := hown'.1; simpa using this
          rw [HT.out] at hj
          rcases Nat.lt_or_ge j k with hjk | hjk
          · rw [List.getElem?_append_left (by rw [hll]; exact hjk)] at hj
            obtain ⟨u, e1, e2, e3⟩ := HE.out j cl hj
            refine ⟨u, by rw [List.getElem?_append_left (by omega)]; exact e1, ?_, ?_⟩
            · exact own_grown (own_below e2 hbx) hg1 (fun k hk => fun e => e3 k e hk)
            · intro g hg e
              have hgl := (own_lt e2 hg).2
              rcases hat with hat | ⟨b, hat, hb⟩
              · exact e3 g hg (by rw [← hat]; exact e)
              · rw [hat] at e
                injection e with e
                have := hbx.size
                omega
          · have hjk' : j = k := by
              rcases Nat.lt_or_ge j (k + 1) with h | h
              · omega
              · rw [List.getElem?_eq_none (by simp [hll]; omega)] at hj; cases hj
            subst hjk'
            rw [List.getElem?_append_right (by omega), hll] at hj
            simp at hj
            subst hj
            refine ⟨.slice A4 (catL ss f.1 f.2).length c4, by rw [List.getElem?_append_right (by omega), hul]; simp, ?_, ?_⟩
            · exact own_grown (own_mono HO3.out (by omega)) hg1 (fun k hk e => by
                have h1 := (own_lt HO3.out e).1
                have h2 := (own_lt hown hk).2
                omega)
            · intro g hg e
              have h1 := own_lt HO3.out hg
              rcases hat with hat | ⟨b, hat, hb⟩
              · rw [hat] at e
                have := (own_lt hown e).2
                omega
              · rw [hat] at e
                injection e with e
                omega
      case measure => simp [intOf]; omega
    · obtain rfl : k = fs.length := by omega
      have HT : Hid (fs.take fs.length = fs) := List.take_length
      rw [HT.out] at hown hels
      have HO : Hid (OwnL wr w.heap.size _ (catA ss fs)) := ⟨us, hown, hels⟩
      clear hown hels f3
      go_wp2_with fail
      go_ret
      exact ⟨_, rfl, HO.out, hbel⟩
end Go.Proofs.YtedpnjbbcfiheaaGreatDoor

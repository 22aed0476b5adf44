/- Walk of masks. -/
import Derived.Test.YtedpnjbbcfiheaaGreatDoorW6
import Derived.StillTailTactics
set_option linter.unusedVariables false
namespace Go.Proofs.YtedpnjbbcfiheaaGreatDoor
open Go.RowKit Go.Sc
/-- a slice of faults: their kinds and their nets -/
def RdF (w : World) (v : Value) (fs : List (Int × List Int)) : Prop :=
  ∃ A c, v = .slice A fs.length c ∧ fs.length ≤ c ∧ c ≤ maxLen ∧ (0 < fs.length → ∃ b off, A = some ⟨b, off, none⟩ ∧ ∀ j f, fs[j]? = some f → ∃ nv, w.cell? ⟨b, off + j * 2, none⟩ = some (.int .i64 f.1) ∧ w.cell? ⟨b, off + j * 2 + 1, none⟩ = some nv ∧ Rd w 1 nv f.2.length (f.2.map (.int .i64)))
theorem RdF.below {w w' : World} {v : Value} {fs : List (Int × List Int)} (h : RdF w v fs) (hb : Below w.heap.size w w') : RdF w' v fs := by
  obtain ⟨A, c, rfl, h1, h2, h3⟩ := h
  refine ⟨A, c, rfl, h1, h2, fun hn => ?_⟩
  obtain ⟨b, off, rfl, hc⟩ := h3 hn
  refine ⟨b, off, rfl, fun j f hj => ?_⟩
  obtain ⟨nv, e1, e2, e3⟩ := hc j f hj
  exact ⟨nv, cell_below hb _ _ e1, cell_below hb _ _ e2, e3.below hb⟩
def maskN (ss : List ByteArray) (fs : List (Int × List Int)) : List Nat := fs.map fun f => detN (rowsN ss) f.1 f.2 (onesN (ss.headD ByteArray.empty).size)
theorem rowsN_lt (ss : List ByteArray) (h : okTest ss) : ∀ r ∈ rowsN ss, r < 18446744073709551616 := by
  intro r hr
  obtain ⟨s, hs, rfl⟩ := List.mem_map.1 hr
  have h1 := rowN_lt s.data.toList
  have h2 := (h s hs).1
  have h3 : 2 ^ s.data.toList.length ≤ 2 ^ 64 := Nat.pow_le_pow_right (by decide) (by simpa using h2)
  exact Nat.lt_of_lt_of_le h1 h3
set_option maxRecDepth 100000 in
theorem masks_any (v fv : Value) (n : Nat) (ss : List ByteArray) (fs : List (Int × List Int)) (w : World) (hr : Rd w 1 v n (ss.map .string)) (hf : RdF w fv fs) (hn1 : 1 ≤ n) (hn : n ≤ 100) (hs : okTest ss) (hok : ∀ f ∈ fs, FOk n f.1 f.2) (hfl : fs.length ≤ 20000) :
    Calls Tryz.prog 57 #[v, fv] w fun e w' => ∃ v', e = .returned v' ∧ w'.ownsRow w.heap.size 73 1 v' fs.length (u64s (maskN ss fs)) ∧ Below w.heap.size w w' := by
  have hl : ss.length = n := by have := hr.len; simpa using this
  have HR0 := Lib.hid hr
  obtain ⟨A, c, rfl, h1, h2, h3, h4⟩ := hr
  obtain ⟨b, off, rfl, hc⟩ := h4 (by omega)
  have hs0 : ss.headD ByteArray.empty = ss[0]'(by omega) := by cases ss with
    | nil => simp at hl; omega
    | cons s t => rfl
  have hc0 : w.cell? ⟨b, off, none⟩ = some (.string (ss.headD ByteArray.empty)) := by
    have := hc 0 (.string (ss.headD ByteArray.empty)) (by rw [hs0]; simp [List.getElem?_eq_getElem (show 0 < ss.length by omega)])
    simpa using this
  have hs64 : (ss.headD ByteArray.empty).size ≤ 64 := (hs _ (by rw [hs0]; exact List.getElem_mem _)).1
  have HMK : Hid (∀ j, maskN ss (fs.take j) = (fs.take j).map fun f => detN (rowsN ss) f.1 f.2 (onesN (ss.headD ByteArray.empty).size)) := fun j => rfl
  generalize ss.headD ByteArray.empty = s0 at *
  have HF0 := Lib.hid hf
  obtain ⟨A2, c2, rfl, f1, f2, f3⟩ := hf
  have HC := Lib.hid hc
  have HL := Lib.hid hl
  clear hs0 hc hl h4 h3
  go_enter Tryz.func57, Tryz.ntmps57
  go_wp2_with fail
  refine (rows_any _ n ss w HR0.out hn hs).mono ?_
  rintro e w1 ⟨v1, rfl, hown1, hb1⟩
  have hrow1 := Rd.of_own hown1
  have HW1 := Lib.hid hrow1
  clear hrow1 hown1
  go_wp2_with fail
  go_loopw [6, 13] (fun v i wr => ∃ k : Nat, k ≤ fs.length ∧ i = .int .i64 k ∧ wr.ownsRow w1.heap.size 73 1 v k (u64s (maskN ss (fs.take k))) ∧ Below w1.heap.size w1 wr) (fun _ i _ => fs.length - (intOf i).toNat)
  case atStart => exact ⟨0, by omega, rfl, by simpa [u64s, maskN] using World.ownsRow_nil _ _ _ _, Below.refl _ _⟩
  case round =>
    obtain ⟨k, hk, rfl, hown, hbel⟩ := hrel
    by_cases hlt : k < fs.length
    · obtain ⟨b2, off2, rfl, hf2⟩ := f3 (by omega)
      obtain ⟨f, hfk⟩ : ∃ f, fs[k]? = some f := ⟨fs[k]'(by omega), List.getElem?_eq_getElem _⟩
      obtain ⟨nv, g1, g2, g3⟩ := hf2 k f hfk
      have hb3 : Below w.heap.size w wr := hb1.trans (hbel.mono hb1.size)
      have g1' := cell_below hb3 _ _ g1
      have g2' := cell_below hb3 _ _ g2
      have hc0' := cell_below hb3 _ _ hc0
      have G3 := Lib.hid g3
      obtain ⟨A3, c3, rfl, _, _, _, _⟩ := g3
      have HK := Lib.hid hfk
      clear hfk g1 g2
      have hsz : w.heap.size ≤ wr.heap.size := hb3.size
      go_upto_block 1 with fail
      go_cut [6] (fun v wx => wx.ownsRow w1.heap.size 73 1 v (k + 1) (u64s (maskN ss (fs.take (k + 1)))) ∧ Below w1.heap.size w1 wx)
      case first =>
        go_upto_region 6 with fail
        obtain ⟨W0, hW0⟩ : ∃ W0, W0 = wr.alloc (.cells #[.int .i64 f.1, .slice A3 f.2.length c3] 60) := ⟨_, rfl⟩
        have hbw : Below wr.heap.size wr W0 := by rw [hW0]; exact (Below.refl _ _).alloc (Nat.le_refl _) _
        have hsz0 : W0.heap.size = wr.heap.size + 1 := by rw [hW0]; simp
        have k0 : W0.cell? ⟨wr.heap.size, 0, none⟩ = some (.int .i64 f.1) := by rw [hW0, World.cell?_alloc_at _ _ _ _ rfl]; rfl
        have k1 : W0.cell? ⟨wr.heap.size, 1, none⟩ = some (.slice A3 f.2.length c3) := by rw [hW0, World.cell?_alloc_at _ _ _ _ rfl]; rfl
        rw [← hW0]
        have hc1 := cell_below hbw _ _ hc0'
        have hown0 := own_below hown hbw
        have hbe : Below w.heap.size w W0 := hb3.trans (hbw.mono hsz)
        have HRW := Lib.hid ((HW1.out.below hbel).below hbw)
        have HFV : Hid (FV W0 (.agg #[.int .i64 f.1, .slice A3 f.2.length c3]) f.1 f.2) := ⟨_, rfl, G3.out.below hbe⟩
        have hfok := Lib.hid (hok f (List.mem_of_getElem? HK.out))
        have HZ := Lib.hid hsz0
        clear hW0 hsz0
        have hn00 : 0 < n := hn1
        have hd3 : (s0.size : Int) ≤ 64 := by omega
        go_region_law (first
          | (refine app_step w1.heap.size rfl _ _ 74 73 (.int .u64 0) 1 8 rfl Tryz.underlying74 info_u64 rfl (by decide) (by decide) _ _ _ ((own_below (w := W0.drew) hown0 hb4).alloc _) _ 1 (by decide) _ ⟨w3, 0, rfl, rfl⟩ rfl rfl rfl (by simp [Value.oneCell']) (by simp; omega) (by omega) ?_; intro g cap w4 hown4 hg4 hat4)
          | (go_simp; go_at_call 111; (refine (detected_any _ _ n (rowsN ss) f.1 f.2 _ W0.drew HRW.out HFV.out hn1 hn hfok.out (rowsN_lt ss hs) (by omega) hd3).mono ?_; rintro e w3 ⟨rfl, hb4⟩; have hsz3 : w1.heap.size ≤ w3.heap.size := Nat.le_trans (Nat.le_trans hbel.size hbw.size) hb4.size)))
        all_goals (go_wp2_with fail; go_meet)
        all_goals
          have HM : u64s (maskN ss (fs.take (k + 1))) = u64s (maskN ss (fs.take k)) ++ [.int .u64 ((detN (rowsN ss) f.1 f.2 (onesN s0.size) : Nat) : Int)] := by
            have e : fs[k]'hlt = f := by have := HK.out; rw [List.getElem?_eq_getElem hlt] at this; simpa using this
            rw [HMK.out, HMK.out, List.take_succ_eq_append_getElem hlt, e, List.map_append, u64s, List.map_append]; rfl
          exact ⟨by rw [HM]; exact hown4, (((hbel.trans (hbw.mono hbel.size)).drew.trans (hb4.mono (Nat.le_trans hbel.size hbw.size))).alloc hsz3 _).grown hg4 (Nat.le_trans hsz3 (by simp)) (fun j hj => (own_lt hown hj).1)⟩
      case rest =>
        obtain ⟨hown2, hbel2⟩ := hcut
        go_wp2_with fail
        go_roundw
        case rel => exact ⟨k + 1, by omega, by go_num, hown2, hbel2⟩
        case measure => simp [intOf]; omega
    · obtain rfl : k = fs.length := by omega
      have HT : Hid (fs.take fs.length = fs) := List.take_length
      go_wp2_with fail
      go_ret
      exact ⟨_, rfl, by rw [HT.out] at hown; exact own_mono hown hb1.size, hb1.trans (hbel.mono hb1.size)⟩
end Go.Proofs.YtedpnjbbcfiheaaGreatDoor

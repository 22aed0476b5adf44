import Derived.Test.YtedpnjbbcfiheaaGreatDoorFLB15
import Derived.Test.YtedpnjbbcfiheaaGreatDoorFLB05
set_option linter.unusedSimpArgs false
set_option linter.unusedSectionVars false
set_option linter.unusedVariables false
/- Walks of Combined, Response. -/
set_option linter.unusedVariables false
namespace Go.Proofs.YtedpnjbbcfiheaaGreatDoor
open Go.RowKit Go.Sc
def combN (rs : List Nat) (fs : List (Int × List Int)) (ones : Nat) : List Nat := fs.foldl (fun r f => withN r f.1 f.2 ones) rs
theorem combN_len (fs : List (Int × List Int)) (ones : Nat) : ∀ rs : List Nat, (combN rs fs ones).length = rs.length := by
  unfold combN
  induction fs with
  | nil => exact fun _ => rfl
  | cons f fs ih => intro rs; rw [List.foldl_cons, ih, withN_len]
theorem combN_lt (fs : List (Int × List Int)) (ones : Nat) (ho : ones < 18446744073709551616) : ∀ rs : List Nat, (∀ r ∈ rs, r < 18446744073709551616) → ∀ r ∈ combN rs fs ones, r < 18446744073709551616 := by
  unfold combN
  induction fs with
  | nil => exact fun _ h => h
  | cons f fs ih => intro rs h; rw [List.foldl_cons]; exact ih _ (withN_lt rs f.1 f.2 ones h ho)
theorem combN_take (rs : List Nat) (fs : List (Int × List Int)) (ones k : Nat) (f : Int × List Int) (h : fs[k]? = some f) : combN rs (fs.take (k + 1)) ones = withN (combN rs (fs.take k) ones) f.1 f.2 ones := by
  obtain ⟨hk, rfl⟩ := List.getElem?_eq_some_iff.1 h
  unfold combN
  rw [List.take_succ_eq_append_getElem hk, List.foldl_append]
  simp only [List.foldl_cons, List.foldl_nil]
/-- what Combined answers -/
def combS (ss : List ByteArray) (fs : List (Int × List Int)) : List ByteArray := (combN (rowsN ss) fs (onesN (ss.headD ByteArray.empty).size)).map (textN (ss.headD ByteArray.empty).size)
set_option maxRecDepth 100000 in
set_option maxHeartbeats 1000000 in
theorem Combined_ok (v : Value) (n : Nat) (ss : List ByteArray) (fv : Value) (fs : List (Int × List Int)) (w : World) (hr : Rd w 1 v n (ss.map .string)) (hsz : szOk ss) (hf : RdF w fv fs) (h0 : lfault ss fs = 0) :
    Calls Tryz.prog 45 #[v, fv] w fun e w' => ∃ v', e = .returned (.tuple #[v', .int .i64 0]) ∧ w'.ownsRow w.heap.size 9 1 v' n ((combS ss fs).map .string) ∧ Below w.heap.size w w' := by
  obtain ⟨t0, fl, fo⟩ := lfault_ok h0
  obtain ⟨l1, l2, hok, _⟩ := tfault_ok t0
  have hl : ss.length = n := by have := hr.len; simpa using this
  have hfo : ∀ f ∈ fs, FOk n f.1 f.2 := fun f hf => by rw [← hl]; exact FOk_of (fo f hf)
  have HR := Lib.hid hr
  have HF := Lib.hid hf
  obtain ⟨A, c, rfl, h1, h2, h3, h4⟩ := hr
  obtain ⟨b, off, rfl, hc⟩ := h4 (by omega)
  have hc0 := head_cell (by omega) hc
  have hs64 := head_ok (by omega) hok
  have HE : Hid ((if tfault ss = 0 then fsL ss.length fs else tfault ss) = 0) := by
    show _ = _
    rw [if_pos t0]
    unfold lfault at h0
    rw [if_pos t0, if_neg (by omega)] at h0
    exact h0
  have hrl : (rowsN ss).length = n := by simp [rowsN, hl]
  have HCS : Hid (combS ss fs = (combN (rowsN ss) fs (onesN (ss.headD ByteArray.empty).size)).map (textN (ss.headD ByteArray.empty).size)) := rfl
  have HRL := Lib.hid hrl
  have HLT := Lib.hid (rowsN_lt ss hok)
  have HC := Lib.hid hc
  have HL := Lib.hid hl
  have HOK := Lib.hid hok
  have HFO := Lib.hid hfo
  have hn00 : 0 < n := by omega
  have hn1 : 1 ≤ n := hn00
  have hn2 : n ≤ 100 := by omega
  generalize ss.headD ByteArray.empty = s0 at *
  have HF0 := Lib.hid hf
  obtain ⟨A2, c2, rfl, f1, f2, f3⟩ := hf
  have hol := ones_lt (s0.size : Int) (by omega)
  clear h0 t0 fo hc h4 h3 hl hok hfo hrl
  go_enter Tryz.func45, Tryz.ntmps45
  go_wp2_with fail
  refine (faultsFault_any _ _ ss _ fs w HR.out hsz HF.out fl).mono ?_
  rintro e w1 ⟨rfl, hb1⟩
  rw [HE.out]
  go_wp2_with fail
  refine (rows_any _ n ss w1 (HR.out.below hb1) hn2 HOK.out).mono ?_
  rintro e w2 ⟨v2, rfl, hown2, hb2⟩
  obtain ⟨g, cap, rfl, hg1, hg2⟩ := hown2.form (by omega)
  have hb12 : Below w.heap.size w w2 := hb1.trans (hb2.mono hb1.size)
  have hsw := hb1.size
  go_wp2_with fail
  go_loopw [20] (fun i wr => ∃ k : Nat, k ≤ fs.length ∧ i = .int .i64 k ∧ wr.ownsRow w1.heap.size 73 1 (.slice (some ⟨g, 0, none⟩) n cap) n (u64s (combN (rowsN ss) (fs.take k) (onesN s0.size))) ∧ Below w.heap.size w wr) (fun i _ => fs.length - (intOf i).toNat)
  case atStart => exact ⟨0, by omega, rfl, by simpa [combN] using hown2, hb12⟩
  case round =>
    obtain ⟨k, hk, rfl, hown, hbel⟩ := hrel
    have HLT2 := Lib.hid (combN_lt (fs.take k) (onesN s0.size) hol (rowsN ss) HLT.out)
    by_cases hlt : k < fs.length
    · obtain ⟨b2, off2, rfl, hf2⟩ := f3 (by omega)
      obtain ⟨f, hfk⟩ : ∃ f, fs[k]? = some f := ⟨fs[k]'(by omega), List.getElem?_eq_getElem _⟩
      obtain ⟨nv, g1, g2, g3⟩ := hf2 k f hfk
      have g1' := cell_below hbel _ _ g1
      have g2' := cell_below hbel _ _ g2
      have hc0' := cell_below hbel _ _ hc0
      have hfok := Lib.hid (HFO.out f (List.mem_of_getElem? hfk))
      have hnvb : ∀ A m c, nv = .slice (some A) m c → A.block ≠ g := fun A m c e => by
        have := g3.block_lt (by have := hfok.out.one; omega) (by decide) A m c e
        omega
      have HNV := Lib.hid hnvb
      have G3 := Lib.hid g3
      obtain ⟨A3, c3, rfl, _, _, _, _⟩ := g3
      have HK : Hid (combN (rowsN ss) (fs.take (k + 1)) (onesN s0.size) = withN (combN (rowsN ss) (fs.take k) (onesN s0.size)) f.1 f.2 (onesN s0.size)) := combN_take _ _ _ _ _ hfk
      clear hfk g1 g2 hnvb
      have hsz : w.heap.size ≤ wr.heap.size := hbel.size
      have hglt := (own_lt hown rfl).2
      generalize combN (rowsN ss) (fs.take k) (onesN s0.size) = q at *
      go_upto_block 1 with fail
      go_cut [] (fun wx => wx.ownsRow w1.heap.size 73 1 (.slice (some ⟨g, 0, none⟩) n cap) n (u64s (combN (rowsN ss) (fs.take (k + 1)) (onesN s0.size))) ∧ Below w.heap.size w wx)
      case first =>
        go_upto_region 8 with fail
        obtain ⟨W0, hW0⟩ : ∃ W0, W0 = wr.alloc (.cells #[.int .i64 f.1, .slice A3 f.2.length c3] 60) := ⟨_, rfl⟩
        have hbw : Below wr.heap.size wr W0 := by rw [hW0]; exact (Below.refl _ _).alloc (Nat.le_refl _) _
        have hsz0 : W0.heap.size = wr.heap.size + 1 := by rw [hW0]; simp
        have k0 : W0.cell? ⟨wr.heap.size, 0, none⟩ = some (.int .i64 f.1) := by rw [hW0, World.cell?_alloc_at _ _ _ _ rfl]; rfl
        have k1 : W0.cell? ⟨wr.heap.size, 1, none⟩ = some (.slice A3 f.2.length c3) := by rw [hW0, World.cell?_alloc_at _ _ _ _ rfl]; rfl
        rw [← hW0]
        have hc1 := cell_below hbw _ _ hc0'
        have hown0 := own_below hown hbw
        have hbe : Below w.heap.size w W0 := hbel.trans (hbw.mono hsz)
        have HG3 : Hid (Rd W0.drew 1 (.slice A3 f.2.length c3) f.2.length (f.2.map (.int .i64))) := (G3.out.below hbe).keep (fun p u h => h)
        have HOD : Hid (W0.drew.ownsRow w1.heap.size 73 1 (.slice (some ⟨g, 0, none⟩) n cap) n (u64s q)) := hown0.drew
        have HBD : Hid (Below w.heap.size w W0.drew) := hbe.drew
        have hsd : w.heap.size ≤ W0.drew.heap.size := HBD.out.size
        clear hW0 hsz0 hown
        go_region_with (first | (go_at_call 59; refine (whole_any _ (by omega) (by omega) _).mono ?_; rintro e w3 ⟨rfl, rfl⟩) | (go_at_call 96; refine (with_any w1.heap.size g n cap q f.1 _ f.2.length f.2 (onesN s0.size) W0.drew HOD.out HG3.out hfok.out.one hfok.out.nets HNV.out hn2 HLT2.out hol hfok.out.six).mono ?_; rintro e w3 ⟨rfl, hown3, hg3⟩))
        all_goals (go_wp2_with fail; go_meet)
        all_goals exact ⟨by rw [HK.out]; exact hown3, HBD.out.grown hg3 hsd (by intro j hj; simp at hj; omega)⟩
      case rest =>
        obtain ⟨hown3, hbel3⟩ := hcut
        go_wp2_with fail
        go_roundw
        case rel => exact ⟨k + 1, by omega, by go_num, hown3, hbel3⟩
        case measure => simp [intOf]; omega
    · obtain rfl : k = fs.length := by omega
      have HT : Hid (fs.take fs.length = fs) := List.take_length
      have hc0' := cell_below hbel _ _ hc0
      have hrd := Rd.of_own hown
      rw [HT.out] at hrd HLT2
      generalize hq : combN (rowsN ss) fs (onesN s0.size) = q at *
      have HQ := Lib.hid hq
      have HRD := Lib.hid hrd
      clear hq hown hrd
      go_wp2_with fail
      refine (texts_any _ n q s0.size wr HRD.out hn2 (by omega) HLT2.out).mono ?_
      rintro e w3 ⟨v3, rfl, hown3, hb3⟩
      go_wp2_with fail
      go_ret2
      exact ⟨_, rfl, by rw [HCS.out]; exact own_mono hown3 hbel.size, hbel.trans (hb3.mono hbel.size)⟩
end Go.Proofs.YtedpnjbbcfiheaaGreatDoor

/- Walk of ResponseOf. -/
import Derived.Test.YtedpnjbbcfiheaaGreatDoorW13
import Derived.Test.YtedpnjbbcfiheaaGreatDoorW14
set_option linter.unusedVariables false
namespace Go.Proofs.YtedpnjbbcfiheaaGreatDoor
open Go.RowKit Go.Sc
def respL (ss : List ByteArray) (k : Int) (ns : List Int) (i m : Nat) : List UInt8 := (List.range m).map fun v => seenV ss k ns i v
def respS (ss : List ByteArray) (k : Int) (ns : List Int) (z i : Nat) : ByteArray := ⟨(respL ss k ns i z).toArray⟩
def respR (ss : List ByteArray) (k : Int) (ns : List Int) (z m : Nat) : List ByteArray := (List.range m).map fun i => respS ss k ns z i
theorem respL_len (ss : List ByteArray) (k : Int) (ns : List Int) (i m : Nat) : (respL ss k ns i m).length = m := by simp [respL]
theorem respL_succ (ss : List ByteArray) (k : Int) (ns : List Int) (i m : Nat) : respL ss k ns i (m + 1) = respL ss k ns i m ++ [seenV ss k ns i m] := by
  simp [respL, List.range_succ]
theorem respR_succ (ss : List ByteArray) (k : Int) (ns : List Int) (z m : Nat) : respR ss k ns z (m + 1) = respR ss k ns z m ++ [respS ss k ns z m] := by
  simp [respR, List.range_succ]
set_option maxRecDepth 100000 in
set_option maxHeartbeats 1000000 in
theorem ResponseOf_any (tv fv : Value) (n : Nat) (ss : List ByteArray) (k : Int) (ns : List Int) (z : Nat) (w : World) (hr : Rd w 1 tv n (ss.map .string)) (hf : FV w fv k ns) (hok : okTest ss) (hz : ∀ s ∈ ss, s.size = z) (hn : n ≤ 100) (hn1 : 1 ≤ n) (hz64 : z ≤ 64)
    (hfo : FOk n k ns) :
    Calls Tryz.prog 82 #[tv, fv] w fun e w' => ∃ v', e = .returned v' ∧ w'.ownsRow w.heap.size 9 1 v' n ((respR ss k ns z n).map .string) ∧ Below w.heap.size w w' := by
  have hl : ss.length = n := by have := hr.len; simpa using this
  have hget : ∀ i, i < n → ∃ s, ss[i]? = some s ∧ s.size = z := fun i hi => by
    refine ⟨ss[i]'(by omega), List.getElem?_eq_getElem _, hz _ (List.getElem_mem _)⟩
  have HR := Lib.hid hr
  obtain ⟨A, c, rfl, h1, h2, h3, h4⟩ := hr
  obtain ⟨b, off, rfl, hc⟩ := h4 (by omega)
  obtain ⟨nv, rfl, hnv⟩ := hf
  obtain ⟨A2, c2, rfl, g1, g2, g3, g4⟩ := hnv
  have hbl : Below w.heap.size w (w.alloc (.cells #[.int .i64 k, .slice A2 ns.length c2] 60)) := (Below.refl _ _).alloc (Nat.le_refl _) _
  have HF : Hid (FV w (.agg #[.int .i64 k, .slice A2 ns.length c2]) k ns) := ⟨_, rfl, ⟨A2, c2, rfl, g1, g2, g3, g4⟩⟩
  have HC : Hid (∀ i s, ss[i]? = some s → w.cell? ⟨b, off + i, none⟩ = some (.string s)) := fun i s hs => hc i (.string s) (by simp [hs])
  have HK0 : Hid ((w.alloc (.cells #[.int .i64 k, .slice A2 ns.length c2] 60)).cell? ⟨w.heap.size, 0, none⟩ = some (.int .i64 k)) := by show _ = _; rw [World.cell?_alloc_at _ _ _ _ rfl]; rfl
  have HK1 : Hid ((w.alloc (.cells #[.int .i64 k, .slice A2 ns.length c2] 60)).cell? ⟨w.heap.size, 1, none⟩ = some (.slice A2 ns.length c2)) := by show _ = _; rw [World.cell?_alloc_at _ _ _ _ rfl]; rfl
  have HG := Lib.hid hget
  have HOK := Lib.hid hok
  have HZ := Lib.hid hz
  have HFO := Lib.hid hfo
  clear hget hc h3 h4 g3 g4 hl hok hz hfo g1 g2
  have hWs : (w.alloc (.cells #[.int .i64 k, .slice A2 ns.length c2] 60)).heap.size = w.heap.size + 1 := by simp
  go_enter Tryz.func82, Tryz.ntmps82
  go_wp2_with fail
  generalize (w.alloc (.cells #[.int .i64 k, .slice A2 ns.length c2] 60)) = W at *
  go_loopw [5, 11] (fun v i wr => ∃ j : Nat, j ≤ n ∧ i = .int .i64 j ∧ wr.ownsRow W.heap.size 9 1 v j ((respR ss k ns z j).map .string) ∧ Below W.heap.size W wr) (fun _ i _ => n - (intOf i).toNat)
  case atStart => exact ⟨0, by omega, rfl, World.ownsRow_nil _ _ _ _, Below.refl _ _⟩
  case round =>
    obtain ⟨j, hj, rfl, hown, hbel⟩ := hrel
    have hbel0 : Below w.heap.size w wr := hbl.trans (hbel.mono (by omega))
    by_cases hlt : j < n
    · obtain ⟨s, hsk, hsz⟩ := HG.out j hlt
      have hcell : wr.cell? ⟨b, off + j, none⟩ = some (.string s) := cell_below hbel0 _ _ (HC.out j s hsk)
      have k0 := cell_below hbel _ _ HK0.out
      have k1 := cell_below hbel _ _ HK1.out
      have hsize := hbel.size
      have HT : Hid ((respR ss k ns z (j + 1)).map Value.string = (respR ss k ns z j).map Value.string ++ [.string (respS ss k ns z j)]) := by
        show _ = _; rw [respR_succ, List.map_append]; rfl
      clear hsk
      obtain ⟨w5, hw5⟩ : ∃ w5, w5 = wr := ⟨_, rfl⟩
      rw [← hw5] at hown hbel hbel0 hcell hsize k0 k1 ⊢
      clear hw5
      obtain rfl : s.size = z := hsz
      go_wp2_with fail
      go_loopw [7, 19] (fun v i wr => ∃ k2 : Nat, k2 ≤ s.size ∧ i = .int .i64 k2 ∧ wr.ownsRow w5.heap.size 5 1 v k2 (u8s (respL ss k ns j k2)) ∧ Below w5.heap.size w5 wr) (fun _ i _ => s.size - (intOf i).toNat)
      case atStart => exact ⟨0, by omega, rfl, World.ownsRow_nil _ _ _ _, Below.refl _ _⟩
      case round =>
        obtain ⟨k2, hk2, rfl, hownb, hbel2⟩ := hrel
        by_cases hlt2 : k2 < s.size
        · have HB2 : Hid (u8s (respL ss k ns j (k2 + 1)) = u8s (respL ss k ns j k2) ++ [.int .u8 ((seenV ss k ns j k2).toNat : Int)]) := by
            show _ = _; rw [respL_succ, u8s, List.map_append]; rfl
          have k0' := cell_below hbel2 _ _ k0
          have k1' := cell_below hbel2 _ _ k1
          have hbel3 : Below w.heap.size w wr := hbel0.trans (hbel2.mono (by have := hbel0.size; omega))
          have HS := Lib.hid (seenBit_any _ _ n ss k ns j k2 s.size wr (HR.out.below hbel3) (HF.out.below hbel3) HOK.out HZ.out hn HFO.out hlt hlt2)
          go_wp2_with fail
          refine HS.out.mono ?_
          rintro e w6 ⟨rfl, hb6⟩
          have hown6 := own_below hownb hb6
          have hb62 := hbel2.trans (hb6.mono hbel2.size)
          have hsz2 := hb62.size
          clear hownb
          go_wp2_with (at_builtin; refine app w5.heap.size rfl _ _ 79 5 (.int .u8 0) 1 1 rfl Tryz.underlying79 info_u8 rfl (by decide) (by decide) _ _ _ hown6 _ 1 rfl rfl rfl (by simp [Value.oneCell']) hsz2 (by omega) ?_; intro v1 w1 hown1 hg1 hat)
          go_roundw
          case rel => exact ⟨k2 + 1, by omega, by go_num, by rw [HB2.out]; exact hown1, hb62.grown hg1 hsz2 (fun j hj => (own_lt hown6 hj).1)⟩
          case measure => simp [intOf]; omega
        · obtain rfl : k2 = s.size := by omega
          have hown2 := own_below hown hbel2
          have hcv := own_str (P := Tryz.prog) (src := 79) (dst := 9) Tryz.underlying79 Tryz.underlying5 Tryz.underlying9 hownb
          have hsz2 := hbel2.size
          have hsz3 : W.heap.size ≤ wr.heap.size := Nat.le_trans hsize hsz2
          have HPB : Hid ((⟨(respL ss k ns j s.size).toArray⟩ : ByteArray) = respS ss k ns s.size j) := rfl
          rw [HPB.out] at hcv
          clear hownb hown
          go_wp2_with (at_builtin; refine app W.heap.size rfl _ _ 26 9 (.string ⟨#[]⟩) 1 16 rfl Tryz.underlying26 info_str rfl (by decide) (by decide) _ _ _ hown2 _ 1 rfl rfl rfl (by simp [Value.oneCell']) hsz3 (by omega) ?_; intro v1 w1 hown1 hg1 hat)
          go_roundw
          case rel => exact ⟨j + 1, by omega, by go_num, by rw [HT.out]; simpa using hown1, (hbel.trans (hbel2.mono hsize)).grown hg1 hsz3 (fun j hj => (own_lt hown2 hj).1)⟩
          case measure => simp [intOf]; omega
    · obtain rfl : j = n := by omega
      go_wp2_with fail
      go_ret
      exact ⟨_, rfl, own_mono hown (by omega), hbel0⟩
end Go.Proofs.YtedpnjbbcfiheaaGreatDoor

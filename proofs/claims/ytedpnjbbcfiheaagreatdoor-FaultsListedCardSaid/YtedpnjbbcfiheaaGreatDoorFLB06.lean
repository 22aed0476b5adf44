import Derived.Test.YtedpnjbbcfiheaaGreatDoorFLB05
import Derived.Test.YtedpnjbbcfiheaaGreatDoorFLB01
import Derived.Lib.OwnBridge
import Derived.Lib.SlicesCompact
import Derived.Sort.Grow
import Derived.Test.YtedpnjbbcfiheaaGreatDoorFLB04
import Derived.Sort.OwnSortedInts
import Derived.Lib.RowBridge
import Derived.Lib.SliceRun
set_option linter.unusedSimpArgs false
set_option linter.unusedSectionVars false
set_option linter.unusedVariables false
/- Walk of ResponseOf. -/
set_option linter.unusedVariables false
namespace Go.Proofs.YtedpnjbbcfiheaaGreatDoor
open Go.RowKit Go.Sc
def respL (ss : List ByteArray) (k : Int) (ns : List Int) (i m : Nat) : List UInt8 := (List.range m).map fun v => seenV ss k ns i v
def respS (ss : List ByteArray) (k : Int) (ns : List Int) (z i : Nat) : ByteArray := ⟨(respL ss k ns i z).toArray⟩
def respR (ss : List ByteArray) (k : Int) (ns : List Int) (z m : Nat) : List ByteArray := (List.range m).map fun i => respS ss k ns z i
theorem respL_len (ss : List ByteArray) (k : Int) (ns : List Int) (i m : Nat) : (respL ss k ns i m).length = m := by simp [respL]
theorem respL_succ (ss : List ByteArray) (k : Int) (ns : List Int) (i m : Nat) : respL ss k ns i (m + 1) = respL ss k ns i m ++ [seenV ss k ns i m] := by
  simp [respL, List.range_succ]
theorem respR_succ (ss : List ByteArray) (k : Int) (ns : List Int) (z m : Nat) : respR ss k ns z (m + 1) = respR ss k ns z m ++ [respS ss k ns z m] := by
  simp [respR, List.range_succ]
set_option maxRecDepth 100000 in
set_option maxHeartbeats 1000000 in
theorem ResponseOf_any (tv fv : Value) (n : Nat) (ss : List ByteArray) (k : Int) (ns : List Int) (z : Nat) (w : World) (hr : Rd w 1 tv n (ss.map .string)) (hf : FV w fv k ns) (hok : okTest ss) (hz : ∀ s ∈ ss, s.size = z) (hn : n ≤ 100) (hn1 : 1 ≤ n) (hz64 : z ≤ 64)
    (hfo : FOk n k ns) :
    Calls Tryz.prog 82 #[tv, fv] w fun e w' => ∃ v', e = .returned v' ∧ w'.ownsRow w.heap.size 9 1 v' n ((respR ss k ns z n).map .string) ∧ Below w.heap.size w w' := by
  have hl : ss.length = n := by have := hr.len; simpa using this
  have hget : ∀ i, i < n → ∃ s, ss[i]? = some s ∧ s.size = z := fun i hi => by
    refine ⟨ss[i]'(by omega), List.getElem?_eq_getElem _, hz _ (List.getElem_mem _)⟩
  have HR := Lib.hid hr
  obtain ⟨A, c, rfl, h1, h2, h3, h4⟩ := hr
  obtain ⟨b, off, rfl, hc⟩ := h4 (by omega)
  obtain ⟨nv, rfl, hnv⟩ := hf
  obtain ⟨A2, c2, rfl, g1, g2, g3, g4⟩ := hnv
  have hbl : Below w.heap.size w (w.alloc (.cells #[.int .i64 k, .slice A2 ns.length c2] 60)) := (Below.refl _ _).alloc (Nat.le_refl _) _
  have HF : Hid (FV w (.agg #[.int .i64 k, .slice A2 ns.length c2]) k ns) := ⟨_, rfl, ⟨A2, c2, rfl, g1, g2, g3, g4⟩⟩
  have HC : Hid (∀ i s, ss[i]? = some s → w.cell? ⟨b, off + i, none⟩ = some (.string s)) := fun i s hs => hc i (.string s) (by simp [hs])
  have HK0 : Hid ((w.alloc (.cells #[.int .i64 k, .slice A2 ns.length c2] 60)).cell? ⟨w.heap.size, 0, none⟩ = some (.int .i64 k)) := by show _ = _; rw [World.cell?_alloc_at _ _ _ _ rfl]; rfl
  have HK1 : Hid ((w.alloc (.cells #[.int .i64 k, .slice A2 ns.length c2] 60)).cell? ⟨w.heap.size, 1, none⟩ = some (.slice A2 ns.length c2)) := by show _ = _; rw [World.cell?_alloc_at _ _ _ _ rfl]; rfl
  have HG := Lib.hid hget
  have HOK := Lib.hid hok
  have HZ := Lib.hid hz
  have HFO := Lib.hid hfo
  clear hget hc h3 h4 g3 g4 hl hok hz hfo g1 g2
  have hWs : (w.alloc (.cells #[.int .i64 k, .slice A2 ns.length c2] 60)).heap.size = w.heap.size + 1 := by simp
  go_enter Tryz.func82, Tryz.ntmps82
  go_wp2_with fail
  generalize (w.alloc (.cells #[.int .i64 k, .slice A2 ns.length c2] 60)) = W at *
  go_loopw [5, 11] (fun v i wr => ∃ j : Nat, j ≤ n ∧ i = .int .i64 j ∧ wr.ownsRow W.heap.size 9 1 v j ((respR ss k ns z j).map .string) ∧ Below W.heap.size W wr) (fun _ i _ => n - (intOf i).toNat)
  case atStart => exact ⟨0, by omega, rfl, World.ownsRow_nil _ _ _ _, Below.refl _ _⟩
  case round =>
    obtain ⟨j, hj, rfl, hown, hbel⟩ := hrel
    have hbel0 : Below w.heap.size w wr := hbl.trans (hbel.mono (by omega))
    by_cases hlt : j < n
    · obtain ⟨s, hsk, hsz⟩ := HG.out j hlt
      have hcell : wr.cell? ⟨b, off + j, none⟩ = some (.string s) := cell_below hbel0 _ _ (HC.out j s hsk)
      have k0 := cell_below hbel _ _ HK0.out
      have k1 := cell_below hbel _ _ HK1.out
      have hsize := hbel.size
      have HT : Hid ((respR ss k ns z (j + 1)).map Value.string = (respR ss k ns z j).map Value.string ++ [.string (respS ss k ns z j)]) := by
        show _ = _; rw [respR_succ, List.map_append]; rfl
      clear hsk
      obtain ⟨w5, hw5⟩ : ∃ w5, w5 = wr := ⟨_, rfl⟩
      rw [← hw5] at hown hbel hbel0 hcell hsize k0 k1 ⊢
      clear hw5
      obtain rfl : s.size = z := hsz
      go_wp2_with fail
      go_loopw [7, 19] (fun v i wr => ∃ k2 : Nat, k2 ≤ s.size ∧ i = .int .i64 k2 ∧ wr.ownsRow w5.heap.size 5 1 v k2 (u8s (respL ss k ns j k2)) ∧ Below w5.heap.size w5 wr) (fun _ i _ => s.size - (intOf i).toNat)
      case atStart => exact ⟨0, by omega, rfl, World.ownsRow_nil _ _ _ _, Below.refl _ _⟩
      case round =>
        obtain ⟨k2, hk2, rfl, hownb, hbel2⟩ := hrel
        by_cases hlt2 : k2 < s.size
        · have HB2 : Hid (u8s (respL ss k ns j (k2 + 1)) = u8s (respL ss k ns j k2) ++ [.int .u8 ((seenV ss k ns j k2).toNat : Int)]) := by
            show _ = _; rw [respL_succ, u8s, List.map_append]; rfl
          have k0' := cell_below hbel2 _ _ k0
          have k1' := cell_below hbel2 _ _ k1
          have hbel3 : Below w.heap.size w wr := hbel0.trans (hbel2.mono (by have := hbel0.size; omega))
          have HS := Lib.hid (seenBit_any _ _ n ss k ns j k2 s.size wr (HR.out.below hbel3) (HF.out.below hbel3) HOK.out HZ.out hn HFO.out hlt hlt2)
          go_wp2_with fail
          refine HS.out.mono ?_
          rintro e w6 ⟨rfl, hb6⟩
          have hown6 := own_below hownb hb6
          have hb62 := hbel2.trans (hb6.mono hbel2.size)
          have hsz2 := hb62.size
          clear hownb
          go_wp2_with (at_builtin; refine app w5.heap.size rfl _ _ 79 5 (.int .u8 0) 1 1 rfl Tryz.underlying79 info_u8 rfl (by decide) (by decide) _ _ _ hown6 _ 1 rfl rfl rfl (by simp [Value.oneCell']) hsz2 (by omega) ?_; intro v1 w1 hown1 hg1 hat)
          go_roundw
          case rel => exact ⟨k2 + 1, by omega, by go_num, by rw [HB2.out]; exact hown1, hb62.grown hg1 hsz2 (fun j hj => (own_lt hown6 hj).1)⟩
          case measure => simp [intOf]; omega
        · obtain rfl : k2 = s.size := by omega
          have hown2 := own_below hown hbel2
          have hcv := own_str (P := Tryz.prog) (src := 79) (dst := 9) Tryz.underlying79 Tryz.underlying5 Tryz.underlying9 hownb
          have hsz2 := hbel2.size
          have hsz3 : W.heap.size ≤ wr.heap.size := Nat.le_trans hsize hsz2
          have HPB : Hid ((⟨(respL ss k ns j s.size).toArray⟩ : ByteArray) = respS ss k ns s.size j) := rfl
          rw [HPB.out] at hcv
          clear hownb hown
          go_wp2_with (at_builtin; refine app W.heap.size rfl _ _ 26 9 (.string ⟨#[]⟩) 1 16 rfl Tryz.underlying26 info_str rfl (by decide) (by decide) _ _ _ hown2 _ 1 rfl rfl rfl (by simp [Value.oneCell']) hsz3 (by omega) ?_; intro v1 w1 hown1 hg1 hat)
          go_roundw
          case rel => exact ⟨j + 1, by omega, by go_num, by rw [HT.out]; simpa using hown1, (hbel.trans (hbel2.mono hsize)).grown hg1 hsz3 (fun j hj => (own_lt hown2 hj).1)⟩
          case measure => simp [intOf]; omega
    · obtain rfl : j = n := by omega
      go_wp2_with fail
      go_ret
      exact ⟨_, rfl, own_mono hown (by omega), hbel0⟩
end Go.Proofs.YtedpnjbbcfiheaaGreatDoor

/- Walk of caught. -/
set_option linter.unusedVariables false
namespace Go.Proofs.YtedpnjbbcfiheaaGreatDoor
open Go.RowKit Go.Sc
def hitB (n : Nat) (rs ss : List ByteArray) (v : Nat) : Bool := (List.range n).any fun i => byteAt rs i v != byteAt ss i v
def hitL (n : Nat) (rs ss : List ByteArray) (m : Nat) : List Int := ((List.range m).filter fun v => hitB n rs ss v).map Int.ofNat
theorem hitL_succ (n : Nat) (rs ss : List ByteArray) (m : Nat) : hitL n rs ss (m + 1) = hitL n rs ss m ++ (if hitB n rs ss m then [(m : Int)] else []) := by
  unfold hitL
  rw [List.range_succ, List.filter_append, List.map_append]
  cases h : hitB n rs ss m <;> simp [h]
theorem hitL_len (n : Nat) (rs ss : List ByteArray) (m : Nat) : (hitL n rs ss m).length ≤ m := by
  unfold hitL
  rw [List.length_map]
  exact Nat.le_trans (List.length_filter_le _ _) (by simp)
def catL (ss : List ByteArray) (k : Int) (ns : List Int) : List Int :=
  hitL ss.length (respR ss k ns (ss.headD ByteArray.empty).size ss.length) ss (ss.headD ByteArray.empty).size
theorem respR_get (ss : List ByteArray) (k : Int) (ns : List Int) (z m i : Nat) (h : i < m) : (respR ss k ns z m)[i]? = some (respS ss k ns z i) := by
  simp [respR, List.getElem?_map, List.getElem?_range h]
theorem respS_size (ss : List ByteArray) (k : Int) (ns : List Int) (z i : Nat) : (respS ss k ns z i).size = z := by
  show (respL ss k ns i z).toArray.size = z
  simp [respL_len]
set_option maxRecDepth 100000 in
set_option maxHeartbeats 1000000 in
theorem caught_any (tv fv : Value) (n : Nat) (ss : List ByteArray) (k : Int) (ns : List Int) (z : Nat) (w : World) (hr : Rd w 1 tv n (ss.map .string)) (hf : FV w fv k ns) (hok : okTest ss) (hz : ∀ s ∈ ss, s.size = z) (hn : n ≤ 100) (hn1 : 1 ≤ n) (hz64 : z ≤ 64)
    (hfo : FOk n k ns) :
    Calls Tryz.prog 66 #[tv, fv] w fun e w' => ∃ v', e = .returned v' ∧ w'.ownsRow w.heap.size 3 1 v' (catL ss k ns).length ((catL ss k ns).map (.int .i64)) ∧ Below w.heap.size w w' := by
  have hl : ss.length = n := by have := hr.len; simpa using this
  have hget : ∀ i, i < n → ∃ s, ss[i]? = some s ∧ s.size = z := fun i hi => by
    refine ⟨ss[i]'(by omega), List.getElem?_eq_getElem _, hz _ (List.getElem_mem _)⟩
  have HZH : Hid ((ss.headD ByteArray.empty).size = z) := by
    show _ = _
    cases hss : ss with
    | nil => rw [hss] at hl; simp at hl; omega
    | cons s t => exact hz s (by rw [hss]; exact List.mem_cons_self ..)
  have HCL : Hid (catL ss k ns = hitL n (respR ss k ns z n) ss z) := by show _ = _; rw [catL, HZH.out, hl]
  have HR := Lib.hid hr
  obtain ⟨A, c, rfl, h1, h2, h3, h4⟩ := hr
  obtain ⟨b, off, rfl, hc⟩ := h4 (by omega)
  obtain ⟨nv, rfl, hnv⟩ := hf
  obtain ⟨A2, c2, rfl, g1, g2, g3, g4⟩ := hnv
  have hbl : Below w.heap.size w (w.alloc (.cells #[.int .i64 k, .slice A2 ns.length c2] 60)) := (Below.refl _ _).alloc (Nat.le_refl _) _
  have HF : Hid (FV w (.agg #[.int .i64 k, .slice A2 ns.length c2]) k ns) := ⟨_, rfl, ⟨A2, c2, rfl, g1, g2, g3, g4⟩⟩
  have HC : Hid (∀ i s, ss[i]? = some s → w.cell? ⟨b, off + i, none⟩ = some (.string s)) := fun i s hs => hc i (.string s) (by simp [hs])
  have HK0 : Hid ((w.alloc (.cells #[.int .i64 k, .slice A2 ns.length c2] 60)).cell? ⟨w.heap.size, 0, none⟩ = some (.int .i64 k)) := by show _ = _; rw [World.cell?_alloc_at _ _ _ _ rfl]; rfl
  have HK1 : Hid ((w.alloc (.cells #[.int .i64 k, .slice A2 ns.length c2] 60)).cell? ⟨w.heap.size, 1, none⟩ = some (.slice A2 ns.length c2)) := by show _ = _; rw [World.cell?_alloc_at _ _ _ _ rfl]; rfl
  have HG := Lib.hid hget
  have HRS := Lib.hid (ResponseOf_any _ _ n ss k ns z _ (HR.out.below hbl) (HF.out.below hbl) hok hz hn hn1 hz64 hfo)
  clear hget hc h3 h4 g3 g4 hl hok hz hfo g1 g2
  have hWs : (w.alloc (.cells #[.int .i64 k, .slice A2 ns.length c2] 60)).heap.size = w.heap.size + 1 := by simp
  go_enter Tryz.func66, Tryz.ntmps66
  have k0 := HK0.out
  have k1 := HK1.out
  go_wp2_with fail
  refine HRS.out.mono ?_
  rintro e w1 ⟨v1, rfl, hownR, hb1⟩
  obtain ⟨g, cap, rfl, hg1, hg2⟩ := hownR.form (by omega)
  have hbl1 : Below w.heap.size w w1 := hbl.trans (hb1.mono (by omega))
  obtain ⟨s0, hs0, hsz0⟩ := HG.out 0 (by omega)
  have c0 : w1.cell? ⟨b, off, none⟩ = some (.string s0) := cell_below hbl1 _ _ (by have := HC.out 0 s0 hs0; simpa using this)
  have HRR : Hid (∀ i, i < n → w1.cell? ⟨g, i, none⟩ = some (.string (respS ss k ns z i))) := fun i hi => by
    have e := hownR.cellAt i (by omega)
    rw [e, List.getElem?_map, respR_get _ _ _ _ _ _ hi]; rfl
  have HRA : Hid (∀ i v, i < n → ∀ hv : v < (respS ss k ns z i).size, byteAt (respR ss k ns z n) i v = (respS ss k ns z i)[v]'hv) := fun i v hi hv => byteAt_eq (respR_get _ _ _ _ _ _ hi) hv
  generalize respR ss k ns z n = rr at *
  clear hownR hs0 k0 k1
  have hs1 := hb1.size
  go_wp2_with fail
  obtain rfl : s0.size = z := hsz0
  go_loopw [6, 16] (fun v i wr => ∃ j : Nat, j ≤ s0.size ∧ i = .int .i64 j ∧ wr.ownsRow w1.heap.size 3 1 v (hitL n rr ss j).length ((hitL n rr ss j).map (.int .i64)) ∧ Below w1.heap.size w1 wr) (fun _ i _ => s0.size - (intOf i).toNat)
  case atStart => exact ⟨0, by omega, rfl, World.ownsRow_nil _ _ _ _, Below.refl _ _⟩
  case round =>
    obtain ⟨j, hj, rfl, hown, hbel⟩ := hrel
    have hbel0 : Below w.heap.size w wr := hbl1.trans (hbel.mono (by omega))
    have hsize := hbel.size
    by_cases hlt : j < s0.size
    · have hll := hitL_len n rr ss j
      obtain ⟨w5, hw5⟩ : ∃ w5, w5 = wr := ⟨_, rfl⟩
      rw [← hw5] at hown hbel hbel0 hsize ⊢
      clear hw5
      go_wp2_with fail
      go_loopw [6, 21] (fun x i wr => ∃ q : Nat, x = u6 ∧ q ≤ n ∧ i = .int .i64 q ∧ Below w5.heap.size w5 wr ∧ Hid (∀ i, i < q → byteAt rr i j = byteAt ss i j)) (fun _ i _ => n - (intOf i).toNat)
      case atStart => exact ⟨0, rfl, by omega, rfl, Below.refl _ _, fun i h => by omega⟩
      case round =>
        obtain ⟨q, rfl, hq, rfl, hbel5, HQ⟩ := hrel
        have hs5 := hbel5.size
        by_cases hlt2 : q < n
        · obtain ⟨s, hsq, hsz⟩ := HG.out q hlt2
          have e1 := cell_below hbel5 _ _ (cell_below hbel0 _ _ (HC.out q s hsq))
          have e2 := cell_below hbel5 _ _ (cell_below hbel _ _ (HRR.out q hlt2))
          have hv1 : j < s.size := by omega
          have hv2 : j < (respS ss k ns s0.size q).size := by rw [respS_size]; exact hlt
          have HA := Lib.hid (HRA.out q j hlt2 hv2)
          have HB := Lib.hid (byteAt_eq hsq hv1)
          clear hsq
          generalize respS ss k ns s0.size q = r at *
          by_cases he : byteAt rr q j = byteAt ss q j
          · have hbb : (((r[j]'hv2).toNat : Int) == ((s[j]'hv1).toNat : Int)) = true := beq_iff_eq.2 (by rw [← HA.out, ← HB.out, he])
            have HQ2 : Hid (∀ i, i < q + 1 → byteAt rr i j = byteAt ss i j) := fun i hi => by
              rcases Nat.lt_or_ge i q with h | h
              · exact HQ.out i h
              · obtain rfl : i = q := by omega
                exact he
            clear he
            go_wp2_with fail
            go_quiet (fail)
            go_wp2_with fail
            go_roundw
            case rel => exact ⟨q + 1, rfl, by omega, by go_num, pw_below_drewN hbel5 _, HQ2⟩
            case measure => simp [intOf]; omega
          · have hbb : (((r[j]'hv2).toNat : Int) == ((s[j]'hv1).toNat : Int)) = false := beq_eq_false_iff_ne.2 fun e => he (by rw [HA.out, HB.out]; exact UInt8.toNat.inj (by omega))
            have HH : Hid (hitL n rr ss (j + 1) = hitL n rr ss j ++ [(j : Int)]) := by
              show _ = _
              have hh : hitB n rr ss j = true := List.any_eq_true.2 ⟨q, List.mem_range.2 hlt2, by simpa using he⟩
              rw [hitL_succ, if_pos hh]
            clear he
            go_wp2_with fail
            go_quiet (fail)
            obtain ⟨w6, hw6⟩ : ∃ w6, w6 = wr.drewN nq := ⟨_, rfl⟩
            have hb6 : Below w5.heap.size w5 w6 := by rw [hw6]; exact pw_below_drewN hbel5 _
            rw [← hw6]
            clear hw6
            have hown6 := own_below hown hb6
            have hsz6 := hb6.size
            have hsz7 : w1.heap.size ≤ w6.heap.size := by omega
            clear hown
            go_wp2_with (at_builtin; refine app w1.heap.size rfl _ _ 22 3 (.int .i64 0) 1 8 rfl Tryz.underlying22 info3 rfl (by decide) (by decide) _ _ _ hown6 _ 1 rfl rfl rfl (by simp [Value.oneCell']) hsz7 (by omega) ?_; intro v1 w8 hown1 hg1 hat)
            go_roundw
            case rel => exact ⟨j + 1, by omega, by go_num, by rw [HH.out]; simpa using hown1, (hbel.trans (hb6.mono hsize)).grown hg1 hsz7 (fun j hj => (own_lt hown6 hj).1)⟩
            case measure => simp [intOf]; omega
        · obtain rfl : q = n := by omega
          have HH : Hid (hitL q rr ss (j + 1) = hitL q rr ss j) := by
            show _ = _
            rw [hitL_succ, if_neg (by
              rw [hitB, List.any_eq_true]
              rintro ⟨i, hi, he⟩
              have := HQ.out i (List.mem_range.1 hi)
              simp [this] at he)]
            simp
          go_wp2_with fail
          go_roundw
          case rel => exact ⟨j + 1, by omega, by go_num, by rw [HH.out]; exact own_below hown hbel5, hbel.trans (hbel5.mono hsize)⟩
          case measure => simp [intOf]; omega
    · obtain rfl : j = s0.size := by omega
      go_wp2_with fail
      go_ret
      exact ⟨_, rfl, by rw [HCL.out]; exact own_mono hown (by omega), hbel0⟩
end Go.Proofs.YtedpnjbbcfiheaaGreatDoor

/- Rows of the call's own: many cells stored, cut to a head; compact of a sorted list. -/
namespace Go.Sc
open Go.RowKit Go.Sort
theorem own_setCells {base g n cap : Nat} {e : TypeId} : ∀ (vs : List Value) (o : Nat) {w : World} {xs : List Value}, w.ownsRow base e 1 (.slice (some ⟨g, 0, none⟩) n cap) n xs →
    ∃ ys, (w.setCells g o vs).ownsRow base e 1 (.slice (some ⟨g, 0, none⟩) n cap) n ys ∧ ys.take o = xs.take o ∧ w.grownBy (w.setCells g o vs) (some g)
  | [], o, w, xs, h => ⟨xs, h, rfl, ⟨rfl, rfl, rfl, Nat.le_refl _, fun _ _ _ => rfl⟩⟩
  | v :: vs, o, w, xs, h => by
    obtain ⟨h1, h2⟩ := h.stored o v
    obtain ⟨ys, h3, h4, h5⟩ := own_setCells vs (o + 1) h1
    refine ⟨ys, h3, ?_, h2.trans h5⟩
    have := congrArg (List.take o) h4
    rw [List.take_take, List.take_take, Nat.min_eq_left (by omega)] at this
    rw [this, List.take_set_of_le (Nat.le_refl _)]
theorem own_cut {w : World} {base g n cap k : Nat} {e : TypeId} {xs : List Value} (h : w.ownsRow base e 1 (.slice (some ⟨g, 0, none⟩) n cap) n xs) (hk : k ≤ n) :
    w.ownsRow base e 1 (.slice (some ⟨g, 0, none⟩) k cap) k (xs.take k) := by
  have hl := h.1
  rcases h.2 with ⟨e0, _⟩ | ⟨g', cap', cur, e0, hb, hg, hn, hm, hs, ht⟩
  · cases e0
  · injection e0 with e1 _ e3
    injection e1 with e1
    injection e1 with e1
    subst e1; subst e3
    refine ⟨by simp; omega, .inr ⟨g, cap, cur, rfl, hb, hg, by omega, hm, hs, ?_⟩⟩
    rw [← ht, List.take_take, Nat.mul_one, Nat.mul_one, Nat.min_eq_left hk]
theorem grown_putRow {α : Type} [Inhabited α] {enc : α → Value} {w : World} {g q : Nat} {d : Array α} : w.grownBy (putRow enc (Sort.ahead w q) g 0 d) (some g) := by
  refine ⟨rfl, rfl, rfl, by simp [putRow, mapBlock, Sort.ahead], fun k hk hne => ?_⟩
  have : g ≠ k := fun e => hne (by rw [e])
  simp [putRow, mapBlock, Sort.ahead, Array.getElem?_modify, this]
end Go.Sc

/- Sort, Compact, Clone, DeleteFunc at numbers in rows of the call's own. -/
set_option linter.unusedVariables false
namespace Go.Proofs.YtedpnjbbcfiheaaGreatDoor
open Go.RowKit Go.Sc Go.Sort
def sortZ (xs : List Int) : List Int := xs.mergeSort fun x y => decide (x ≤ y)
theorem Sort_own (base : Nat) (v : Value) (n : Nat) (xs : List Int) (w : World) (h : w.ownsRow base 3 1 v n (xs.map (.int .i64))) (hn : n < 4611686018427387904) :
    Calls Tryz.prog 50 #[v] w fun e w' => e = .returned (.tuple #[]) ∧ w'.ownsRow base 3 1 v n ((sortZ xs).map (.int .i64)) ∧ w.grownBy w' v.ownBlock := by
  have hl : xs.length = n := by have := h.1; simpa using this
  rcases h.2 with ⟨rfl, rfl⟩ | ⟨g, cap, cur, rfl, hb, hg, hnc, hcm, hcs, ht⟩
  · obtain rfl : xs = [] := List.eq_nil_of_length_eq_zero hl
    refine (Tryz.slices_Sort_int_none none 0 w).mono ?_
    rintro e w' ⟨rfl, rfl⟩
    exact ⟨rfl, by rw [show sortZ [] = [] from by simp [sortZ]]; exact h, ⟨rfl, rfl, rfl, Nat.le_refl _, fun _ _ _ => rfl⟩⟩
  · have hglt : g < w.heap.size := (own_lt h rfl).2
    have hsl : (sortZ xs).length = xs.length := List.length_mergeSort _
    subst hl
    refine (Tryz.slices_Sort_int g 0 cap xs w (holds_of_blockI hg (by simpa using ht)) hglt hn).mono ?_
    rintro e w' ⟨rfl, q, os, rfl⟩
    exact ⟨rfl, ownsRow_sortedI (ss := xs) (ts := sortZ xs) hsl hb hg hnc hcm hcs, grownBy_sortedI _⟩
theorem Compact_own (base : Nat) (v : Value) (n : Nat) (xs : List Int) (w : World) (h : w.ownsRow base 3 1 v n (xs.map (.int .i64))) (hn : n < 4611686018427387904) :
    Calls Tryz.prog 67 #[v] w fun e w' => ∃ v', e = .returned v' ∧ w'.ownsRow base 3 1 v' (Lib.compact xs).length ((Lib.compact xs).map (.int .i64)) ∧ w.grownBy w' v.ownBlock := by
  have hl : xs.length = n := by have := h.1; simpa using this
  rcases h.2 with ⟨rfl, rfl⟩ | ⟨g, cap, cur, rfl, hb, hg, hnc, hcm, hcs, ht⟩
  · obtain rfl : xs = [] := List.eq_nil_of_length_eq_zero hl
    refine (Tryz.slices_Compact_int_empty none 0 w).mono ?_
    rintro e w' ⟨rfl, rfl⟩
    exact ⟨_, rfl, h, ⟨rfl, rfl, rfl, Nat.le_refl _, fun _ _ _ => rfl⟩⟩
  · subst hl
    refine (Tryz.slices_Compact_int g 0 cap xs w (holds_of_blockI hg (by simpa using ht)) (by omega) hnc).mono ?_
    rintro e w' ⟨rfl, q, rfl⟩
    have hcl : (Lib.compact xs).length ≤ xs.length := by
      unfold Lib.compact Lib.compactUpTo
      rw [List.length_map]
      exact Nat.le_trans (List.length_filter_le _ _) (by simp)
    refine ⟨_, rfl, ?_, grown_putRow⟩
    have := Lib.ownsRow_putRow (q := q) (ys := Lib.compact xs ++ List.replicate (xs.length - (Lib.compact xs).length) 0) h (by simp; omega) hcl
    rwa [List.take_left'] at this
    rfl
theorem Clone_rd (v : Value) (n : Nat) (xs : List Int) (w : World) (hr : Rd w 1 v n (xs.map (.int .i64))) (hn : n ≤ 1000000) :
    Calls Tryz.prog 55 #[v] w fun e w' => ∃ v', e = .returned v' ∧ w'.ownsRow w.heap.size 3 1 v' n (xs.map (.int .i64)) ∧ Below w.heap.size w w' := by
  have hl : xs.length = n := by have := hr.len; simpa using this
  obtain ⟨A, c, rfl, h1, h2, h3, h4⟩ := hr
  cases A with
  | none =>
    have hn0 : n = 0 := by
      rcases Nat.eq_zero_or_pos n with h | h
      · exact h
      · obtain ⟨b, off, e, _⟩ := h4 h
        cases e
    subst hn0
    obtain rfl : xs = [] := List.eq_nil_of_length_eq_zero hl
    refine (Tryz.slices_Clone_int_nil 0 c w).mono ?_
    rintro e w' ⟨rfl, rfl⟩
    exact ⟨_, rfl, World.ownsRow_nil _ _ _ _, Below.refl _ _⟩
  | some a =>
    rcases Nat.eq_zero_or_pos n with h0 | h0
    · subst h0
      obtain rfl : xs = [] := List.eq_nil_of_length_eq_zero hl
      refine (Tryz.slices_Clone_int_zero a c w).mono ?_
      rintro e w' ⟨v', rfl, ho, _, hb⟩
      exact ⟨_, rfl, ho, hb⟩
    · obtain ⟨b, off, e, hc⟩ := h4 h0
      injection e with e
      subst e
      refine (Tryz.slices_Clone_int b off n c xs w (by omega) (by omega) (rd_int_at h3 hc)).mono ?_
      rintro e w' ⟨v', rfl, ho, _, hb⟩
      rw [List.take_of_length_le (by omega)] at ho
      exact ⟨_, rfl, ho, hb⟩
/-- the function value answers p x at every x of the list, whatever has been made and whatever has turned from block B on -/
def AnsB (P : Program) (B : Nat) (w : World) (F : FuncId) (cap : Array Value) (p : Int → Bool) (xs : List Int) : Prop :=
  ∀ W, Below B w W → ∀ x ∈ xs, Calls P F (#[.int .i64 x] ++ cap) W fun e w' => e = .returned (.bool (p x)) ∧ Below W.heap.size W w'
def delN (p : Int → Bool) (xs : List Int) (j : Nat) : List Int := (xs.take j).filter fun x => !p x
theorem delN_succ (p : Int → Bool) (xs : List Int) (j : Nat) (x : Int) (h : xs[j]? = some x) : delN p xs (j + 1) = delN p xs j ++ (if p x then [] else [x]) := by
  unfold delN
  have hj : j < xs.length := by
    rcases Nat.lt_or_ge j xs.length with h' | h'
    · exact h'
    · rw [List.getElem?_eq_none h'] at h; cases h
  rw [List.take_succ_eq_append_getElem hj, List.filter_append]
  have e : xs[j] = x := by rw [List.getElem?_eq_getElem hj] at h; simpa using h
  rw [e]
  cases hp : p x <;> simp [hp]
theorem delN_len (p : Int → Bool) (xs : List Int) (j : Nat) : (delN p xs j).length ≤ j := Nat.le_trans (List.length_filter_le _ _) (by simp; omega)
theorem goF_spec {α : Type} (p : α → Bool) : ∀ (xs : List α) (i : Nat), (goF p i xs = -1 ∧ ∀ x ∈ xs, p x = false) ∨ ∃ k, k < xs.length ∧ goF p i xs = ((i + k : Nat) : Int) ∧ (∀ j, j < k → ∀ x, xs[j]? = some x → p x = false) ∧ ∀ x, xs[k]? = some x → p x = true
  | [], i => .inl ⟨rfl, fun x h => by cases h⟩
  | y :: r, i => by
    cases h : p y with
    | true => exact .inr ⟨0, by simp, by simp [goF, h], fun j hj => by omega, fun x hx => by simp at hx; rw [← hx, h]⟩
    | false =>
      rcases goF_spec p r (i + 1) with ⟨e, ha⟩ | ⟨k, hk, e, ha, ht⟩
      · refine .inl ⟨by simp [goF, h, e], fun x hx => ?_⟩
        rcases List.mem_cons.1 hx with rfl | hx
        · exact h
        · exact ha x hx
      · refine .inr ⟨k + 1, by simpa using hk, by simp only [goF, h]; rw [if_neg (by decide), e]; congr 1; omega, fun j hj x hx => ?_, fun x hx => ht x (by simpa using hx)⟩
        cases j with
        | zero => simp at hx; rw [← hx, h]
        | succ j => exact ha j (by omega) x (by simpa using hx)
theorem delN_none (p : Int → Bool) (xs : List Int) (h : ∀ x ∈ xs, p x = false) : delN p xs xs.length = xs := by
  unfold delN
  rw [List.take_length]
  exact List.filter_eq_self.2 fun x hx => by rw [h x hx]; rfl
theorem delN_head (p : Int → Bool) (xs : List Int) (k : Nat) (h : ∀ j, j < k → ∀ x, xs[j]? = some x → p x = false) : delN p xs k = xs.take k := by
  unfold delN
  refine List.filter_eq_self.2 fun x hx => ?_
  obtain ⟨j, hj⟩ := List.mem_iff_getElem?.1 hx
  have hjk : j < k := by
    rcases Nat.lt_or_ge j k with h' | h'
    · exact h'
    · rw [List.getElem?_take_eq_none h'] at hj; cases hj
  rw [List.getElem?_take_of_lt hjk] at hj
  rw [h j hjk x hj]; rfl
set_option maxRecDepth 100000 in
set_option maxHeartbeats 1000000 in
theorem DeleteFunc_own (B : Nat) (v : Value) (n : Nat) (xs : List Int) (F : FuncId) (capv : Array Value) (p : Int → Bool) (w : World) (hown : w.ownsRow B 3 1 v n (xs.map (.int .i64))) (hBw : B ≤ w.heap.size) (hn : n ≤ 1000000) (hA : AnsB Tryz.prog B w F capv p xs) (he : ∀ args W, (callFunc F args).run Tryz.prog W = .ok (.enter F args) W) :
    Calls Tryz.prog 69 #[v, .func (.func F) #[] capv] w fun e w' => ∃ v', e = .returned v' ∧ w'.ownsRow B 3 1 v' (xs.filter fun x => !p x).length ((xs.filter fun x => !p x).map (.int .i64)) ∧ Below B w w' := by
  have hl : xs.length = n := by have := hown.1; simpa using this
  have hans : Ans Tryz.prog w F capv (.int .i64) p xs := fun W hb x hx => hA W (hb.mono hBw) x hx
  have hdn : (xs.filter fun x => !p x) = delN p xs n := by unfold delN; rw [List.take_of_length_le (by omega)]
  rw [hdn]
  have HI := Lib.hid (IndexFunc_any v n xs F capv p w (Rd.of_own hown) hn hans he)
  rcases goF_spec p xs 0 with ⟨e1, hall⟩ | ⟨k0, hk0, e1, hall, hat⟩
  · have HX : Hid (idxF p xs = -1) := e1
    have HD : Hid (delN p xs n = xs) := by show _ = _; rw [← hl, delN_none p xs hall]
    clear hall e1 hdn
    go_enter Tryz.func69, Tryz.ntmps69
    go_wp2_with fail
    refine HI.out.mono ?_
    rintro e w2 ⟨rfl, hb2⟩
    rw [HX.out]
    go_wp2_with fail
    go_ret
    exact ⟨_, rfl, by rw [HD.out, hl]; exact own_below hown hb2, hb2.mono hBw⟩
  · have HX : Hid (idxF p xs = (k0 : Int)) := by show _ = _; rw [idxF, e1]; simp
    obtain ⟨g, cap, rfl, hg1, hg2⟩ := hown.form (by omega)
    have hcap : n ≤ cap ∧ cap ≤ maxLen := by
      obtain ⟨A, c, e, h1, h2, _⟩ := Rd.of_own hown
      injection e with _ _ e3
      subst e3
      exact ⟨h1, h2⟩
    obtain ⟨hc1, hc2⟩ := hcap
    have hk0n : k0 < n := by omega
    have HS : Hid (delN p xs (k0 + 1) = xs.take k0) := by
      show _ = _
      have hx := List.getElem?_eq_getElem hk0
      rw [delN_succ p xs k0 _ hx, hat _ hx, delN_head p xs k0 hall]; simp
    have HSL : Hid ((delN p xs (k0 + 1)).length = k0) := by show _ = _; rw [HS.out]; simp; omega
    have HA := Lib.hid hA
    have HL := Lib.hid hl
    have v23 := Tryz.zeroValue3
    clear hall hat e1 hdn hk0 hA hans hl
    go_enter Tryz.func69, Tryz.ntmps69
    go_wp2_with fail
    refine HI.out.mono ?_
    rintro e w2 ⟨rfl, hb2⟩
    rw [HX.out]
    have hown2 := own_below hown hb2
    have hbB := hb2.mono hBw
    clear hown hb2
    have e12 : (((k0 : Nat) : Int) == -1) = false := beq_eq_false_iff_ne.2 (by omega)
    go_wp2_with fail
    go_loopw [5, 6] (fun x i wr => ∃ k j : Nat, ∃ zs : List Int, j ≤ n ∧ k < j ∧ x = .int .i64 k ∧ i = .int .i64 j ∧ Hid (k = (delN p xs j).length) ∧ wr.ownsRow B 3 1 (.slice (some ⟨g, 0, none⟩) n cap) n (zs.map (.int .i64)) ∧ Hid (zs.take k = delN p xs j) ∧ Hid (∀ i, j ≤ i → zs[i]? = xs[i]?) ∧ Below B w wr) (fun _ i _ => n - (intOf i).toNat)
    case atStart => exact ⟨k0, k0 + 1, xs, by omega, by omega, by go_num, by go_num, HSL.out.symm, hown2, HS.out.symm, fun _ _ => rfl, hbB⟩
    case round =>
      obtain ⟨k, j, zs, hj, hkj, rfl, rfl, hkl, hown, HZ, HY, hbel⟩ := hrel
      have hsz := hbel.size
      by_cases hlt : j < n
      · obtain ⟨x, hx⟩ : ∃ x, xs[j]? = some x := ⟨xs[j]'(by rw [HL.out]; exact hlt), List.getElem?_eq_getElem _⟩
        have c1 : wr.cell? ⟨g, j, none⟩ = some (.int .i64 x) := by
          rw [own_cell_int hown j hlt, HY.out j (Nat.le_refl _), hx]; rfl
        have HC := Lib.hid (HA.out _ hbel x (List.mem_of_getElem? hx))
        have HD := Lib.hid (delN_succ p xs j x hx)
        clear hx
        go_wp2_with fail
        refine HC.out.mono ?_
        rintro e w3 ⟨rfl, hb3⟩
        have hown3 := own_below hown hb3
        have hb3s := hb3.size
        have hbel3 := hbel.trans (hb3.mono (by omega))
        clear hown hbel hb3
        cases hp : p x
        · have HD2 : Hid (delN p xs (j + 1) = delN p xs j ++ [x]) := by show _ = _; rw [HD.out, hp]; rfl
          have hst := hown3.stored k (.int .i64 x)
          have fz := hown3.frozenAt k
          obtain ⟨y, cy⟩ : ∃ y, w3.cell? ⟨g, k, none⟩ = some y := ⟨_, own_cell_int hown3 k (by omega)⟩
          go_wp2_with fail
          have hset : Value.int IntKind.i64 x :: [] = [x].map (Value.int IntKind.i64) := rfl
          go_roundw
          case rel =>
            refine ⟨k + 1, j + 1, zs.set k x, by omega, by omega, by go_num, by go_num, by show _ = _; rw [HD2.out, List.length_append, ← hkl.out]; rfl, by rw [List.map_set]; exact hst.1, ?_, fun i hi => by rw [List.getElem?_set_ne (by omega)]; exact HY.out i (by omega), hbel3.grown hst.2 (by omega) (fun j hj => ?_)⟩
            · show _ = _
              rw [HD2.out, ← HZ.out]
              have hzl : k < zs.length := by have := hown3.1; simp at this; omega
              rw [List.take_succ_eq_append_getElem (by simpa using hzl)]
              simp [List.take_set_of_le]
            · injection hj with hj
              subst hj
              exact hg1
          case measure => simp [intOf]; omega
        · have HD2 : Hid (delN p xs (j + 1) = delN p xs j) := by show _ = _; rw [HD.out, hp]; simp
          go_wp2_with fail
          go_roundw
          case rel => exact ⟨k, j + 1, zs, by omega, by omega, rfl, by go_num, by rw [HD2.out]; exact hkl, hown3, by show _ = _; rw [HD2.out]; exact HZ.out, fun i hi => HY.out i (by omega), hbel3⟩
          case measure => simp [intOf]; omega
      · obtain rfl : j = n := by omega
        have hcl : ∀ ty, (Builtin.clear_ #[22] ty #[.slice (some ⟨g, k, none⟩) (j - k) (cap - k)]).run Tryz.prog wr = .ok (.tuple #[]) (wr.setCells g k (List.replicate (j - k) (.int .i64 0))) :=
          fun ty => Lib.run_clear_slice wr _ _ ty _ Tryz.underlying22 v23 rfl rfl g k _ _ (by omega) (fun t ht => by rw [own_cell_int hown (k + t) (by omega)]; rfl) (fun t ht => hown.frozenAt _)
        obtain ⟨ys, y1, y2, y3⟩ := own_setCells (List.replicate (j - k) (Value.int .i64 0)) k hown
        have y4 := own_cut y1 (k := k) (by omega)
        rw [y2, ← List.map_take, HZ.out] at y4
        have hb9 : Below B w (wr.setCells g k (List.replicate (j - k) (.int .i64 0))) := hbel.grown y3 (by omega) (fun i hi => by injection hi with hi; subst hi; exact hg1)
        clear y1 y3 hown hbel
        generalize wr.setCells g k (List.replicate (j - k) (.int .i64 0)) = w9 at *
        go_wp2_with fail
        go_ret
        exact ⟨_, rfl, by rw [← hkl.out]; exact y4, hb9⟩
end Go.Proofs.YtedpnjbbcfiheaaGreatDoor

/- Walk of NeededOf. -/
set_option linter.unusedVariables false
namespace Go.Proofs.YtedpnjbbcfiheaaGreatDoor
open Go.RowKit Go.Sc
def oneL (l : List Int) : List Int := if l.length = 1 then l else []
def needC (ss : List ByteArray) (fs : List (Int × List Int)) : List Int := fs.flatMap fun f => oneL (catL ss f.1 f.2)
theorem needC_take (ss : List ByteArray) (fs : List (Int × List Int)) (k : Nat) (f : Int × List Int) (h : fs[k]? = some f) : needC ss (fs.take (k + 1)) = needC ss (fs.take k) ++ oneL (catL ss f.1 f.2) := by
  have hk : k < fs.length := by
    rcases Nat.lt_or_ge k fs.length with h' | h'
    · exact h'
    · rw [List.getElem?_eq_none h'] at h; cases h
  have e : fs[k] = f := by rw [List.getElem?_eq_getElem hk] at h; simpa using h
  unfold needC
  rw [List.take_succ_eq_append_getElem hk, List.flatMap_append, e]
  simp
theorem needC_len (ss : List ByteArray) (fs : List (Int × List Int)) (k : Nat) : (needC ss (fs.take k)).length ≤ k := by
  have key : ∀ l : List (Int × List Int), (needC ss l).length ≤ l.length := by
    intro l
    induction l with
    | nil => simp [needC]
    | cons f r ih =>
      have : needC ss (f :: r) = oneL (catL ss f.1 f.2) ++ needC ss r := by simp [needC]
      rw [this, List.length_append, List.length_cons]
      have h1 : (oneL (catL ss f.1 f.2)).length ≤ 1 := by unfold oneL; split <;> simp_all
      omega
  exact Nat.le_trans (key _) (by simp; omega)
set_option maxRecDepth 100000 in
set_option maxHeartbeats 1000000 in
theorem NeededOf_any (tv fv : Value) (n : Nat) (ss : List ByteArray) (fs : List (Int × List Int)) (z : Nat) (w : World) (hr : Rd w 1 tv n (ss.map .string)) (hf : RdF w fv fs) (hok : okTest ss) (hz : ∀ s ∈ ss, s.size = z) (hn : n ≤ 100) (hn1 : 1 ≤ n) (hz64 : z ≤ 64)
    (hfo : ∀ f ∈ fs, FOk n f.1 f.2) (hfl : fs.length ≤ 20000) :
    Calls Tryz.prog 14 #[tv, fv] w fun e w' => ∃ v', e = .returned v' ∧ w'.ownsRow w.heap.size 3 1 v' (Lib.compact (sortZ (needC ss fs))).length ((Lib.compact (sortZ (needC ss fs))).map (.int .i64)) ∧ Below w.heap.size w w' := by
  have HR := Lib.hid hr
  have HF := Lib.hid hf
  have HOK := Lib.hid hok
  have HZ := Lib.hid hz
  have HFO := Lib.hid hfo
  obtain ⟨A2, c2, rfl, f1, f2, f3⟩ := hf
  obtain ⟨A, c, rfl, h1, h2, h3, h4⟩ := hr
  clear h3 h4 hok hz hfo
  go_enter Tryz.func14, Tryz.ntmps14
  go_wp2_with fail
  go_loopw [5, 11] (fun v i wr => ∃ k : Nat, k ≤ fs.length ∧ i = .int .i64 k ∧ wr.ownsRow w.heap.size 3 1 v (needC ss (fs.take k)).length ((needC ss (fs.take k)).map (.int .i64)) ∧ Below w.heap.size w wr) (fun _ i _ => fs.length - (intOf i).toNat)
  case atStart => exact ⟨0, by omega, rfl, World.ownsRow_nil _ _ _ _, Below.refl _ _⟩
  case round =>
    obtain ⟨k, hk, rfl, hown, hbel⟩ := hrel
    by_cases hlt : k < fs.length
    · obtain ⟨b2, off2, rfl, hf2⟩ := f3 (by omega)
      obtain ⟨f, hfk⟩ : ∃ f, fs[k]? = some f := ⟨fs[k]'(by omega), List.getElem?_eq_getElem _⟩
      obtain ⟨nv, g1, g2, g3⟩ := hf2 k f hfk
      have g1' := cell_below hbel _ _ g1
      have g2' := cell_below hbel _ _ g2
      have G3 := Lib.hid g3
      obtain ⟨A3, c3, rfl, _, _, _, _⟩ := g3
      have HT := Lib.hid (needC_take ss fs k f hfk)
      have hll := needC_len ss fs k
      have hbw : Below wr.heap.size wr (wr.alloc (.cells #[.int .i64 f.1, .slice A3 f.2.length c3] 60)) := (Below.refl _ _).alloc (Nat.le_refl _) _
      have k0 : (wr.alloc (.cells #[.int .i64 f.1, .slice A3 f.2.length c3] 60)).cell? ⟨wr.heap.size, 0, none⟩ = some (.int .i64 f.1) := by rw [World.cell?_alloc_at _ _ _ _ rfl]; rfl
      have k1 : (wr.alloc (.cells #[.int .i64 f.1, .slice A3 f.2.length c3] 60)).cell? ⟨wr.heap.size, 1, none⟩ = some (.slice A3 f.2.length c3) := by rw [World.cell?_alloc_at _ _ _ _ rfl]; rfl
      have hbe : Below w.heap.size w (wr.alloc (.cells #[.int .i64 f.1, .slice A3 f.2.length c3] 60)) := hbel.alloc hbel.size _
      have HFV : Hid (FV (wr.alloc (.cells #[.int .i64 f.1, .slice A3 f.2.length c3] 60)) (.agg #[.int .i64 f.1, .slice A3 f.2.length c3]) f.1 f.2) := ⟨_, rfl, G3.out.below hbe⟩
      have HCA := Lib.hid (caught_any _ _ n ss f.1 f.2 z _ (HR.out.below hbe) HFV.out HOK.out HZ.out hn hn1 hz64 (HFO.out f (List.mem_of_getElem? hfk)))
      have hsz := hbel.size
      have hown0 := own_below hown hbw
      have hbws := hbw.size
      clear hfk g1 g2 hown
      go_wp2_with fail
      refine HCA.out.mono ?_
      rintro e w3 ⟨v3, rfl, hown3, hb3⟩
      have hbel3 := hbe.trans (hb3.mono (by omega))
      have hown' := own_below hown0 hb3
      have hs3 := hbel3.size
      generalize catL ss f.1 f.2 = cl at *
      clear hown0
      by_cases h1c : cl.length = 1
      · have HT2 : Hid (needC ss (fs.take (k + 1)) = needC ss (fs.take k) ++ cl) := by show _ = _; rw [HT.out, oneL, if_pos h1c]
        obtain ⟨x, rfl⟩ : ∃ x, cl = [x] := List.length_eq_one_iff.1 h1c
        obtain ⟨g, cap, rfl, _, _⟩ := hown3.form (by simp)
        have cx := own_cell_int hown3 0 (by simp)
        have hb : (([x].length : Int) == 1) = true := rfl
        go_wp2_with (at_builtin; refine app w.heap.size rfl _ _ 22 3 (.int .i64 0) 1 8 rfl Tryz.underlying22 info3 rfl (by decide) (by decide) _ _ _ hown' _ 1 rfl rfl rfl (by simp [Value.oneCell']) hs3 (by omega) ?_; intro v1 w8 hown1 hg1 hat)
        go_roundw
        case rel => exact ⟨k + 1, by omega, by go_num, by rw [HT2.out]; simpa using hown1, hbel3.grown hg1 hs3 (fun j hj => (own_lt hown' hj).1)⟩
        case measure => simp [intOf]; omega
      · have HT2 : Hid (needC ss (fs.take (k + 1)) = needC ss (fs.take k)) := by show _ = _; rw [HT.out, oneL, if_neg h1c]; simp
        have hb : ((cl.length : Int) == 1) = false := beq_eq_false_iff_ne.2 (by omega)
        obtain ⟨A4, c4, rfl, _, _, _, _⟩ := Rd.of_own hown3
        go_wp2_with fail
        go_roundw
        case rel => exact ⟨k + 1, by omega, by go_num, by rw [HT2.out]; exact hown', hbel3⟩
        case measure => simp [intOf]; omega
    · obtain rfl : k = fs.length := by omega
      have HT : Hid (fs.take fs.length = fs) := List.take_length
      rw [HT.out] at hown
      have hll := needC_len ss fs fs.length
      rw [HT.out] at hll
      generalize hnc : needC ss fs = nc at *
      have HNC := Lib.hid hnc
      clear hnc
      clear f3
      go_wp2_with fail
      refine (Sort_own _ _ _ _ _ hown (by omega)).mono ?_
      rintro e w2 ⟨rfl, hown2, hg2⟩
      have hb2 := hbel.grown hg2 hbel.size (fun j hj => (own_lt hown hj).1)
      go_wp2_with fail
      refine (Compact_own _ _ _ _ _ hown2 (by omega)).mono ?_
      rintro e w3 ⟨v3, rfl, hown3, hg3⟩
      have hb3 := hb2.grown hg3 hb2.size (fun j hj => (own_lt hown2 hj).1)
      go_wp2_with fail
      go_ret
      exact ⟨_, rfl, by rw [HNC.out]; exact hown3, hb3⟩
end Go.Proofs.YtedpnjbbcfiheaaGreatDoor

/- IndexFunc and ContainsFunc at lists of numbers; covers. -/
set_option linter.unusedVariables false
namespace Go.Proofs.YtedpnjbbcfiheaaGreatDoor
open Go.RowKit Go.Sc
/-- a slice of slices of numbers -/
def RdL (w : World) (v : Value) (css : List (List Int)) : Prop :=
  ∃ A c, v = .slice A css.length c ∧ css.length ≤ c ∧ c ≤ maxLen ∧ (0 < css.length → ∃ b off, A = some ⟨b, off, none⟩ ∧ ∀ j cl, css[j]? = some cl → ∃ u, w.cell? ⟨b, off + j, none⟩ = some u ∧ Rd w 1 u cl.length (cl.map (.int .i64)))
theorem RdL.below {w w' : World} {v : Value} {css : List (List Int)} (h : RdL w v css) (hb : Below w.heap.size w w') : RdL w' v css := by
  obtain ⟨A, c, rfl, h1, h2, h3⟩ := h
  refine ⟨A, c, rfl, h1, h2, fun hn => ?_⟩
  obtain ⟨b, off, rfl, hc⟩ := h3 hn
  refine ⟨b, off, rfl, fun j f hj => ?_⟩
  obtain ⟨u, e1, e2⟩ := hc j f hj
  exact ⟨u, cell_below hb _ _ e1, e2.below hb⟩
def AnsL (P : Program) (w : World) (F : FuncId) (cap : Array Value) (p : List Int → Bool) (css : List (List Int)) : Prop :=
  ∀ W, Below w.heap.size w W → ∀ c ∈ css, ∀ u, Rd W 1 u c.length (c.map (.int .i64)) → Calls P F (#[u] ++ cap) W fun e w' => e = .returned (.bool (p c)) ∧ Below W.heap.size W w'
set_option maxRecDepth 100000 in
theorem IndexFuncL_any (v : Value) (css : List (List Int)) (F : FuncId) (cap : Array Value) (p : List Int → Bool) (w : World) (hr : RdL w v css) (hn : css.length ≤ 1000000) (hA : AnsL Tryz.prog w F cap p css) (he : ∀ args W, (callFunc F args).run Tryz.prog W = .ok (.enter F args) W) :
    Calls Tryz.prog 165 #[v, .func (.func F) #[] cap] w fun e w' => e = .returned (.int .i64 (idxF p css)) ∧ Below w.heap.size w w' := by
  obtain ⟨A, c, rfl, h1, h2, h4⟩ := hr
  have HA := Lib.hid hA
  clear hA
  go_enter Tryz.func165, Tryz.ntmps165
  go_wp2_with fail
  go_loopw [8] (fun i wr => ∃ k : Nat, k ≤ css.length ∧ i = .int .i64 k ∧ Hid (idxF p css = goF p k (css.drop k)) ∧ Below w.heap.size w wr) (fun i _ => css.length - (intOf i).toNat)
  case atStart => exact ⟨0, by omega, rfl, rfl, Below.refl _ _⟩
  case round =>
    obtain ⟨k, hk, rfl, HK, hbel⟩ := hrel
    by_cases hlt : k < css.length
    · obtain ⟨b, off, rfl, hc⟩ := h4 (by omega)
      obtain ⟨x, hx⟩ : ∃ x, css[k]? = some x := ⟨css[k]'(by omega), List.getElem?_eq_getElem _⟩
      obtain ⟨u, c0, hu⟩ := hc k x hx
      have c1 := cell_below hbel _ _ c0
      have HX : Hid (idxF p css = if p x = true then (k : Int) else goF p (k + 1) (css.drop (k + 1))) := by show _ = _; rw [HK.out, drop_at hx, goF]
      have HC := Lib.hid (HA.out _ hbel x (List.mem_of_getElem? hx) u (hu.below hbel))
      obtain ⟨A3, c3, rfl, _, _, _, _⟩ := hu
      clear hx hc HK c0
      go_wp2_with fail
      refine HC.out.mono ?_
      rintro e w2 ⟨rfl, hb2⟩
      cases hp : p x
      · have HY : Hid (idxF p css = goF p (k + 1) (css.drop (k + 1))) := by show _ = _; rw [HX.out, hp]; rfl
        go_wp2_with fail
        go_roundw
        case rel => exact ⟨k + 1, by omega, by go_num, HY, hbel.trans (hb2.mono hbel.size)⟩
        case measure => simp [intOf]; omega
      · have HY : Hid (idxF p css = (k : Int)) := by show _ = _; rw [HX.out, hp]; rfl
        go_wp2_with fail
        go_ret
        exact ⟨ret_int HY.out.symm, hbel.trans (hb2.mono hbel.size)⟩
    · obtain rfl : k = css.length := by omega
      have HY : Hid (idxF p css = -1) := by show _ = _; rw [HK.out, List.drop_eq_nil_of_le (by omega)]; rfl
      go_wp2_with fail
      go_ret
      exact ⟨ret_int HY.out.symm, hbel⟩
theorem ContainsFuncL_any (v : Value) (css : List (List Int)) (F : FuncId) (cap : Array Value) (p : List Int → Bool) (w : World) (hr : RdL w v css) (hn : css.length ≤ 1000000) (hA : AnsL Tryz.prog w F cap p css) (he : ∀ args W, (callFunc F args).run Tryz.prog W = .ok (.enter F args) W) :
    Calls Tryz.prog 119 #[v, .func (.func F) #[] cap] w fun e w' => e = .returned (.bool (anyF p css)) ∧ Below w.heap.size w w' := by
  have hx := goF_lo p 0 css
  have HG := Lib.hid (goF_any p 0 css)
  have HI : Hid (idxF p css = goF p 0 css) := rfl
  have HR := Lib.hid hr
  have HA := Lib.hid hA
  clear hr hA
  go_enter Tryz.func119, Tryz.ntmps119
  go_wp2_with fail
  refine (IndexFuncL_any v css F cap p w HR.out hn HA.out he).mono ?_
  rintro e w2 ⟨rfl, hb2⟩
  rw [HI.out]
  generalize goF p 0 css = i at *
  go_wp2_with fail
  go_ret
  exact ⟨ret_bool (by rw [anyF]; exact HG.out), hb2⟩
/-! ### covers -/
def missL (vs c : List Int) : Bool := !c.isEmpty && !anyF (conB vs) c
def covB (css : List (List Int)) (vs : List Int) : Bool := !anyF (missL vs) css
theorem covIn_any (x : Int) (vs : List Int) (g : Nat) (A : Option Addr) (c : Nat) (W : World) (hc : W.cell? ⟨g, 0, none⟩ = some (.slice A vs.length c)) (hr : Rd W 1 (.slice A vs.length c) vs.length (vs.map (.int .i64))) (hn : vs.length ≤ 1000000) :
    Calls Tryz.prog 122 #[.int .i64 x, .pointer (some ⟨g, 0, none⟩)] W fun e w' => e = .returned (.bool (conB vs x)) ∧ Below W.heap.size W w' := by
  have HR := Lib.hid hr
  clear hr
  go_enter Tryz.func122, Tryz.ntmps122
  go_wp2_with (go_at_call 44; refine (Contains_any _ _ vs _ _ HR.out (by omega)).mono ?_; rintro e w' ⟨rfl, rfl⟩)
  go_ret
  exact ⟨rfl, Below.refl _ _⟩
theorem covMid_any (u : Value) (cl : List Int) (vs : List Int) (g : Nat) (A : Option Addr) (c : Nat) (W : World) (hu : Rd W 1 u cl.length (cl.map (.int .i64))) (hc : W.cell? ⟨g, 0, none⟩ = some (.slice A vs.length c)) (hr : Rd W 1 (.slice A vs.length c) vs.length (vs.map (.int .i64))) (hn : vs.length ≤ 1000000) (hcn : cl.length ≤ 1000000) :
    Calls Tryz.prog 120 #[u, .pointer (some ⟨g, 0, none⟩)] W fun e w' => e = .returned (.bool (missL vs cl)) ∧ Below W.heap.size W w' := by
  have HU := Lib.hid hu
  obtain ⟨A3, c3, rfl, _, _, _, _⟩ := hu
  have HA : Hid (Ans Tryz.prog W 122 #[.pointer (some ⟨g, 0, none⟩)] (.int .i64) (conB vs) cl) := by
    intro W' hb x hx
    exact covIn_any x vs g A c W' (cell_below hb _ _ hc) (hr.below hb) hn
  have HE : Hid (∀ args W, (callFunc 122 args).run Tryz.prog W = .ok (.enter 122 args) W) := enters_of Tryz.func122 (by kernel_rfl) rfl
  clear hc hr
  by_cases h0 : cl.length = 0
  · have HM : Hid (missL vs cl = false) := by show _ = _; rw [List.eq_nil_of_length_eq_zero h0]; rfl
    go_enter Tryz.func120, Tryz.ntmps120
    go_wp2_with fail
    go_ret
    exact ⟨ret_bool HM.out.symm, Below.refl _ _⟩
  · have HM : Hid (missL vs cl = !anyF (conB vs) cl) := by
      show _ = _
      cases cl with
      | nil => simp at h0
      | cons x r => rfl
    have h1 : 0 < cl.length := by omega
    go_enter Tryz.func120, Tryz.ntmps120
    go_wp2_with (go_at_call 121; refine (ContainsFunc_any _ _ cl _ _ (conB vs) _ HU.out hcn HA.out HE.out).mono ?_; rintro e w2 ⟨rfl, hb2⟩)
    go_ret
    exact ⟨ret_bool HM.out.symm, hb2⟩
theorem covers_any (v u : Value) (css : List (List Int)) (vs : List Int) (w : World) (hr : RdL w v css) (hn : css.length ≤ 1000000) (hcs : ∀ c ∈ css, c.length ≤ 1000000) (hu : Rd w 1 u vs.length (vs.map (.int .i64))) (hvn : vs.length ≤ 1000000) :
    Calls Tryz.prog 71 #[v, u] w fun e w' => e = .returned (.bool (covB css vs)) ∧ Below w.heap.size w w' := by
  have HU := hu
  obtain ⟨A3, c3, rfl, _, _, _, _⟩ := hu
  have hbl : Below w.heap.size w (w.alloc (.cells #[.slice A3 vs.length c3] 22)) := (Below.refl _ _).alloc (Nat.le_refl _) _
  have HR := Lib.hid (hr.below hbl)
  have hcell : (w.alloc (.cells #[.slice A3 vs.length c3] 22)).cell? ⟨w.heap.size, 0, none⟩ = some (.slice A3 vs.length c3) := by rw [World.cell?_alloc_at _ _ _ _ rfl]; rfl
  have HA : Hid (AnsL Tryz.prog (w.alloc (.cells #[.slice A3 vs.length c3] 22)) 120 #[.pointer (some ⟨w.heap.size, 0, none⟩)] (missL vs) css) := by
    intro W hb c hc u hu
    exact covMid_any u c vs w.heap.size A3 c3 W hu (cell_below hb _ _ hcell) ((HU.below hbl).below hb) hvn (hcs c hc)
  have HE : Hid (∀ args W, (callFunc 120 args).run Tryz.prog W = .ok (.enter 120 args) W) := enters_of Tryz.func120 (by kernel_rfl) rfl
  have HX : Hid ((!anyF (missL vs) css) = covB css vs) := rfl
  clear hr hcell HU
  go_enter Tryz.func71, Tryz.ntmps71
  go_wp2_with fail
  refine (ContainsFuncL_any v css _ _ (missL vs) _ HR.out hn HA.out HE.out).mono ?_
  rintro e w2 ⟨rfl, hb2⟩
  go_wp2_with fail
  go_ret
  exact ⟨ret_bool HX.out, hbl.trans (hb2.mono (by simp))⟩
end Go.Proofs.YtedpnjbbcfiheaaGreatDoor

/- Walk of allCaught. -/
set_option linter.unusedVariables false
namespace Go.Proofs.YtedpnjbbcfiheaaGreatDoor
open Go.RowKit Go.Sc
theorem info_ints : (Tryz.prog.info? 22).map (fun i => (i.zero, i.size, i.bytes)) = some (some (.slice none 0 0), 1, 24) := by kernel_rfl
/-- a row of the call's own of slices of numbers, each in a row of the call's own -/
def OwnL (w : World) (base : Nat) (v : Value) (css : List (List Int)) : Prop :=
  ∃ us : List Value, w.ownsRow base 22 1 v css.length us ∧ ∀ (j : Nat) (cl : List Int), css[j]? = some cl → ∃ u, us[j]? = some u ∧ w.ownsRow base 3 1 u cl.length (cl.map (.int .i64)) ∧ ∀ g, u.ownBlock = some g → v.ownBlock ≠ some g
theorem OwnL.rdl {w : World} {base : Nat} {v : Value} {css : List (List Int)} (h : OwnL w base v css) : RdL w v css := by
  obtain ⟨us, h1, h2⟩ := h
  obtain ⟨A, c, rfl, r1, r2, r3, r4⟩ := Rd.of_own h1
  refine ⟨A, c, rfl, r1, r2, fun hn => ?_⟩
  obtain ⟨b, off, rfl, hc⟩ := r4 hn
  refine ⟨b, off, rfl, fun j cl hj => ?_⟩
  obtain ⟨u, e1, e2, _⟩ := h2 j cl hj
  exact ⟨u, hc j u e1, Rd.of_own e2⟩
theorem OwnL.nil (w : World) (base : Nat) : OwnL w base (.slice none 0 0) [] := ⟨[], World.ownsRow_nil _ _ _ _, fun j cl h => by simp at h⟩
def catA (ss : List ByteArray) (fs : List (Int × List Int)) : List (List Int) := fs.map fun f => catL ss f.1 f.2
set_option maxRecDepth 100000 in
set_option maxHeartbeats 1000000 in
theorem allCaught_any (tv fv : Value) (n : Nat) (ss : List ByteArray) (fs : List (Int × List Int)) (z : Nat) (w : World) (hr : Rd w 1 tv n (ss.map .string)) (hf : RdF w fv fs) (hok : okTest ss) (hz : ∀ s ∈ ss, s.size = z) (hn : n ≤ 100) (hn1 : 1 ≤ n) (hz64 : z ≤ 64)
    (hfo : ∀ f ∈ fs, FOk n f.1 f.2) (hfl : fs.length ≤ 20000) :
    Calls Tryz.prog 68 #[tv, fv] w fun e w' => ∃ v', e = .returned v' ∧ OwnL w' w.heap.size v' (catA ss fs) ∧ Below w.heap.size w w' := by
  have HR := Lib.hid hr
  have HF := Lib.hid hf
  have HOK := Lib.hid hok
  have HZ := Lib.hid hz
  have HFO := Lib.hid hfo
  obtain ⟨A2, c2, rfl, f1, f2, f3⟩ := hf
  obtain ⟨A, c, rfl, h1, h2, h3, h4⟩ := hr
  clear h3 h4 hok hz hfo
  go_enter Tryz.func68, Tryz.ntmps68
  go_wp2_with fail
  go_loopw [5, 10] (fun v i wr => ∃ k : Nat, k ≤ fs.length ∧ i = .int .i64 k ∧ OwnL wr w.heap.size v (catA ss (fs.take k)) ∧ Below w.heap.size w wr) (fun _ i _ => fs.length - (intOf i).toNat)
  case atStart => exact ⟨0, by omega, rfl, OwnL.nil _ _, Below.refl _ _⟩
  case round =>
    obtain ⟨k, hk, rfl, ⟨us, hown, hels⟩, hbel⟩ := hrel
    by_cases hlt : k < fs.length
    · obtain ⟨b2, off2, rfl, hf2⟩ := f3 (by omega)
      obtain ⟨f, hfk⟩ : ∃ f, fs[k]? = some f := ⟨fs[k]'(by omega), List.getElem?_eq_getElem _⟩
      obtain ⟨nv, g1, g2, g3⟩ := hf2 k f hfk
      have g1' := cell_below hbel _ _ g1
      have g2' := cell_below hbel _ _ g2
      have G3 := Lib.hid g3
      obtain ⟨A3, c3, rfl, _, _, _, _⟩ := g3
      have HT : Hid (catA ss (fs.take (k + 1)) = catA ss (fs.take k) ++ [catL ss f.1 f.2]) := by
        have e : fs[k]'hlt = f := by rw [List.getElem?_eq_getElem hlt] at hfk; simpa using hfk
        show _ = _
        rw [catA, List.take_succ_eq_append_getElem hlt, List.map_append, e]; rfl
      have hll : (catA ss (fs.take k)).length = k := by simp [catA]; omega
      have HE := Lib.hid hels
      have hbw : Below wr.heap.size wr (wr.alloc (.cells #[.int .i64 f.1, .slice A3 f.2.length c3] 60)) := (Below.refl _ _).alloc (Nat.le_refl _) _
      have k0 : (wr.alloc (.cells #[.int .i64 f.1, .slice A3 f.2.length c3] 60)).cell? ⟨wr.heap.size, 0, none⟩ = some (.int .i64 f.1) := by rw [World.cell?_alloc_at _ _ _ _ rfl]; rfl
      have k1 : (wr.alloc (.cells #[.int .i64 f.1, .slice A3 f.2.length c3] 60)).cell? ⟨wr.heap.size, 1, none⟩ = some (.slice A3 f.2.length c3) := by rw [World.cell?_alloc_at _ _ _ _ rfl]; rfl
      have hbe : Below w.heap.size w (wr.alloc (.cells #[.int .i64 f.1, .slice A3 f.2.length c3] 60)) := hbel.alloc hbel.size _
      have HFV : Hid (FV (wr.alloc (.cells #[.int .i64 f.1, .slice A3 f.2.length c3] 60)) (.agg #[.int .i64 f.1, .slice A3 f.2.length c3]) f.1 f.2) := ⟨_, rfl, G3.out.below hbe⟩
      have HCA := Lib.hid (caught_any _ _ n ss f.1 f.2 z _ (HR.out.below hbe) HFV.out HOK.out HZ.out hn hn1 hz64 (HFO.out f (List.mem_of_getElem? hfk)))
      have hsz := hbel.size
      have hbws : (wr.alloc (.cells #[.int .i64 f.1, .slice A3 f.2.length c3] 60)).heap.size = wr.heap.size + 1 := by simp
      clear hfk g1 g2 hels
      go_wp2_with fail
      refine HCA.out.mono ?_
      rintro e w3 ⟨v3, rfl, hown3, hb3⟩
      have hbel3 := hbe.trans (hb3.mono (by omega))
      have hbx := hbw.trans (hb3.mono (by omega))
      have hown' := own_below hown hbx
      rw [hll] at hown'
      have hs3 := hbel3.size
      obtain ⟨A4, c4, rfl, q1, q2, q3, q4⟩ := Rd.of_own hown3
      clear q3 q4
      have HO3 := Lib.hid hown3
      clear hown3
      go_wp2_with (at_builtin; refine app w.heap.size rfl _ _ 52 22 (.slice none 0 0) 1 24 rfl Tryz.underlying52 info_ints rfl (by decide) (by decide) _ _ _ hown' _ 1 rfl rfl rfl (by simp [Value.oneCell']) hs3 (by omega) ?_; intro v1 w8 hown1 hg1 hat)
      go_roundw
      case rel =>
        refine ⟨k + 1, by omega, by go_num, ⟨us ++ [.slice A4 (catL ss f.1 f.2).length c4], ?_, ?_⟩, hbel3.grown hg1 hs3 (fun j hj => (own_lt hown' hj).1)⟩
        · rw [HT.out, List.length_append, hll]; exact hown1
        · intro j cl hj
          have hul : us.length = k := by have := hown'.1; simpa using this
          rw [HT.out] at hj
          rcases Nat.lt_or_ge j k with hjk | hjk
          · rw [List.getElem?_append_left (by rw [hll]; exact hjk)] at hj
            obtain ⟨u, e1, e2, e3⟩ := HE.out j cl hj
            refine ⟨u, by rw [List.getElem?_append_left (by omega)]; exact e1, ?_, ?_⟩
            · exact own_grown (own_below e2 hbx) hg1 (fun k hk => fun e => e3 k e hk)
            · intro g hg e
              have hgl := (own_lt e2 hg).2
              rcases hat with hat | ⟨b, hat, hb⟩
              · exact e3 g hg (by rw [← hat]; exact e)
              · rw [hat] at e
                injection e with e
                have := hbx.size
                omega
          · have hjk' : j = k := by
              rcases Nat.lt_or_ge j (k + 1) with h | h
              · omega
              · rw [List.getElem?_eq_none (by simp [hll]; omega)] at hj; cases hj
            subst hjk'
            rw [List.getElem?_append_right (by omega), hll] at hj
            simp at hj
            subst hj
            refine ⟨.slice A4 (catL ss f.1 f.2).length c4, by rw [List.getElem?_append_right (by omega), hul]; simp, ?_, ?_⟩
            · exact own_grown (own_mono HO3.out (by omega)) hg1 (fun k hk e => by
                have h1 := (own_lt HO3.out e).1
                have h2 := (own_lt hown hk).2
                omega)
            · intro g hg e
              have h1 := own_lt HO3.out hg
              rcases hat with hat | ⟨b, hat, hb⟩
              · rw [hat] at e
                have := (own_lt hown e).2
                omega
              · rw [hat] at e
                injection e with e
                omega
      case measure => simp [intOf]; omega
    · obtain rfl : k = fs.length := by omega
      have HT : Hid (fs.take fs.length = fs) := List.take_length
      rw [HT.out] at hown hels
      have HO : Hid (OwnL wr w.heap.size _ (catA ss fs)) := ⟨us, hown, hels⟩
      clear hown hels f3
      go_wp2_with fail
      go_ret
      exact ⟨_, rfl, HO.out, hbel⟩
end Go.Proofs.YtedpnjbbcfiheaaGreatDoor

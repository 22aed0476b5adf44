/- Walk of caught. -/
import Derived.Test.YtedpnjbbcfiheaaGreatDoorW15
set_option linter.unusedVariables false
namespace Go.Proofs.YtedpnjbbcfiheaaGreatDoor
open Go.RowKit Go.Sc
def hitB (n : Nat) (rs ss : List ByteArray) (v : Nat) : Bool := (List.range n).any fun i => byteAt rs i v != byteAt ss i v
def hitL (n : Nat) (rs ss : List ByteArray) (m : Nat) : List Int := ((List.range m).filter fun v => hitB n rs ss v).map Int.ofNat
theorem hitL_succ (n : Nat) (rs ss : List ByteArray) (m : Nat) : hitL n rs ss (m + 1) = hitL n rs ss m ++ (if hitB n rs ss m then [(m : Int)] else []) := by
  unfold hitL
  rw [List.range_succ, List.filter_append, List.map_append]
  cases h : hitB n rs ss m <;> simp [h]
theorem hitL_len (n : Nat) (rs ss : List ByteArray) (m : Nat) : (hitL n rs ss m).length ≤ m := by
  unfold hitL
  rw [List.length_map]
  exact Nat.le_trans (List.length_filter_le _ _) (by simp)
def catL (ss : List ByteArray) (k : Int) (ns : List Int) : List Int :=
  hitL ss.length (respR ss k ns (ss.headD ByteArray.empty).size ss.length) ss (ss.headD ByteArray.empty).size
theorem respR_get (ss : List ByteArray) (k : Int) (ns : List Int) (z m i : Nat) (h : i < m) : (respR ss k ns z m)[i]? = some (respS ss k ns z i) := by
  simp [respR, List.getElem?_map, List.getElem?_range h]
theorem respS_size (ss : List ByteArray) (k : Int) (ns : List Int) (z i : Nat) : (respS ss k ns z i).size = z := by
  show (respL ss k ns i z).toArray.size = z
  simp [respL_len]
set_option maxRecDepth 100000 in
set_option maxHeartbeats 1000000 in
theorem caught_any (tv fv : Value) (n : Nat) (ss : List ByteArray) (k : Int) (ns : List Int) (z : Nat) (w : World) (hr : Rd w 1 tv n (ss.map .string)) (hf : FV w fv k ns) (hok : okTest ss) (hz : ∀ s ∈ ss, s.size = z) (hn : n ≤ 100) (hn1 : 1 ≤ n) (hz64 : z ≤ 64)
    (hfo : FOk n k ns) :
    Calls Tryz.prog 66 #[tv, fv] w fun e w' => ∃ v', e = .returned v' ∧ w'.ownsRow w.heap.size 3 1 v' (catL ss k ns).length ((catL ss k ns).map (.int .i64)) ∧ Below w.heap.size w w' := by
  have hl : ss.length = n := by have := hr.len; simpa using this
  have hget : ∀ i, i < n → ∃ s, ss[i]? = some s ∧ s.size = z := fun i hi => by
    refine ⟨ss[i]'(by omega), List.getElem?_eq_getElem _, hz _ (List.getElem_mem _)⟩
  have HZH : Hid ((ss.headD ByteArray.empty).size = z) := by
    show _ = _
    cases hss : ss with
    | nil => rw [hss] at hl; simp at hl; omega
    | cons s t => exact hz s (by rw [hss]; exact List.mem_cons_self ..)
  have HCL : Hid (catL ss k ns = hitL n (respR ss k ns z n) ss z) := by show _ = _; rw [catL, HZH.out, hl]
  have HR := Lib.hid hr
  obtain ⟨A, c, rfl, h1, h2, h3, h4⟩ := hr
  obtain ⟨b, off, rfl, hc⟩ := h4 (by omega)
  obtain ⟨nv, rfl, hnv⟩ := hf
  obtain ⟨A2, c2, rfl, g1, g2, g3, g4⟩ := hnv
  have hbl : Below w.heap.size w (w.alloc (.cells #[.int .i64 k, .slice A2 ns.length c2] 60)) := (Below.refl _ _).alloc (Nat.le_refl _) _
  have HF : Hid (FV w (.agg #[.int .i64 k, .slice A2 ns.length c2]) k ns) := ⟨_, rfl, ⟨A2, c2, rfl, g1, g2, g3, g4⟩⟩
  have HC : Hid (∀ i s, ss[i]? = some s → w.cell? ⟨b, off + i, none⟩ = some (.string s)) := fun i s hs => hc i (.string s) (by simp [hs])
  have HK0 : Hid ((w.alloc (.cells #[.int .i64 k, .slice A2 ns.length c2] 60)).cell? ⟨w.heap.size, 0, none⟩ = some (.int .i64 k)) := by show _ = _; rw [World.cell?_alloc_at _ _ _ _ rfl]; rfl
  have HK1 : Hid ((w.alloc (.cells #[.int .i64 k, .slice A2 ns.length c2] 60)).cell? ⟨w.heap.size, 1, none⟩ = some (.slice A2 ns.length c2)) := by show _ = _; rw [World.cell?_alloc_at _ _ _ _ rfl]; rfl
  have HG := Lib.hid hget
  have HRS := Lib.hid (ResponseOf_any _ _ n ss k ns z _ (HR.out.below hbl) (HF.out.below hbl) hok hz hn hn1 hz64 hfo)
  clear hget hc h3 h4 g3 g4 hl hok hz hfo g1 g2
  have hWs : (w.alloc (.cells #[.int .i64 k, .slice A2 ns.length c2] 60)).heap.size = w.heap.size + 1 := by simp
  go_enter Tryz.func66, Tryz.ntmps66
  have k0 := HK0.out
  have k1 := HK1.out
  go_wp2_with fail
  refine HRS.out.mono ?_
  rintro e w1 ⟨v1, rfl, hownR, hb1⟩
  obtain ⟨g, cap, rfl, hg1, hg2⟩ := hownR.form (by omega)
  have hbl1 : Below w.heap.size w w1 := hbl.trans (hb1.mono (by omega))
  obtain ⟨s0, hs0, hsz0⟩ := HG.out 0 (by omega)
  have c0 : w1.cell? ⟨b, off, none⟩ = some (.string s0) := cell_below hbl1 _ _ (by have := HC.out 0 s0 hs0; simpa using this)
  have HRR : Hid (∀ i, i < n → w1.cell? ⟨g, i, none⟩ = some (.string (respS ss k ns z i))) := fun i hi => by
    have e := hownR.cellAt i (by omega)
    rw [e, List.getElem?_map, respR_get _ _ _ _ _ _ hi]; rfl
  have HRA : Hid (∀ i v, i < n → ∀ hv : v < (respS ss k ns z i).size, byteAt (respR ss k ns z n) i v = (respS ss k ns z i)[v]'hv) := fun i v hi hv => byteAt_eq (respR_get _ _ _ _ _ _ hi) hv
  generalize respR ss k ns z n = rr at *
  clear hownR hs0 k0 k1
  have hs1 := hb1.size
  go_wp2_with fail
  obtain rfl : s0.size = z := hsz0
  go_loopw [6, 16] (fun v i wr => ∃ j : Nat, j ≤ s0.size ∧ i = .int .i64 j ∧ wr.ownsRow w1.heap.size 3 1 v (hitL n rr ss j).length ((hitL n rr ss j).map (.int .i64)) ∧ Below w1.heap.size w1 wr) (fun _ i _ => s0.size - (intOf i).toNat)
  case atStart => exact ⟨0, by omega, rfl, World.ownsRow_nil _ _ _ _, Below.refl _ _⟩
  case round =>
    obtain ⟨j, hj, rfl, hown, hbel⟩ := hrel
    have hbel0 : Below w.heap.size w wr := hbl1.trans (hbel.mono (by omega))
    have hsize := hbel.size
    by_cases hlt : j < s0.size
    · have hll := hitL_len n rr ss j
      obtain ⟨w5, hw5⟩ : ∃ w5, w5 = wr := ⟨_, rfl⟩
      rw [← hw5] at hown hbel hbel0 hsize ⊢
      clear hw5
      go_wp2_with fail
      go_loopw [6, 21] (fun x i wr => ∃ q : Nat, x = u6 ∧ q ≤ n ∧ i = .int .i64 q ∧ Below w5.heap.size w5 wr ∧ Hid (∀ i, i < q → byteAt rr i j = byteAt ss i j)) (fun _ i _ => n - (intOf i).toNat)
      case atStart => exact ⟨0, rfl, by omega, rfl, Below.refl _ _, fun i h => by omega⟩
      case round =>
        obtain ⟨q, rfl, hq, rfl, hbel5, HQ⟩ := hrel
        have hs5 := hbel5.size
        by_cases hlt2 : q < n
        · obtain ⟨s, hsq, hsz⟩ := HG.out q hlt2
          have e1 := cell_below hbel5 _ _ (cell_below hbel0 _ _ (HC.out q s hsq))
          have e2 := cell_below hbel5 _ _ (cell_below hbel _ _ (HRR.out q hlt2))
          have hv1 : j < s.size := by omega
          have hv2 : j < (respS ss k ns s0.size q).size := by rw [respS_size]; exact hlt
          have HA := Lib.hid (HRA.out q j hlt2 hv2)
          have HB := Lib.hid (byteAt_eq hsq hv1)
          clear hsq
          generalize respS ss k ns s0.size q = r at *
          by_cases he : byteAt rr q j = byteAt ss q j
          · have hbb : (((r[j]'hv2).toNat : Int) == ((s[j]'hv1).toNat : Int)) = true := beq_iff_eq.2 (by rw [← HA.out, ← HB.out, he])
            have HQ2 : Hid (∀ i, i < q + 1 → byteAt rr i j = byteAt ss i j) := fun i hi => by
              rcases Nat.lt_or_ge i q with h | h
              · exact HQ.out i h
              · obtain rfl : i = q := by omega
                exact he
            clear he
            go_wp2_with fail
            go_quiet (fail)
            go_wp2_with fail
            go_roundw
            case rel => exact ⟨q + 1, rfl, by omega, by go_num, pw_below_drewN hbel5 _, HQ2⟩
            case measure => simp [intOf]; omega
          · have hbb : (((r[j]'hv2).toNat : Int) == ((s[j]'hv1).toNat : Int)) = false := beq_eq_false_iff_ne.2 fun e => he (by rw [HA.out, HB.out]; exact UInt8.toNat.inj (by omega))
            have HH : Hid (hitL n rr ss (j + 1) = hitL n rr ss j ++ [(j : Int)]) := by
              show _ = _
              have hh : hitB n rr ss j = true := List.any_eq_true.2 ⟨q, List.mem_range.2 hlt2, by simpa using he⟩
              rw [hitL_succ, if_pos hh]
            clear he
            go_wp2_with fail
            go_quiet (fail)
            obtain ⟨w6, hw6⟩ : ∃ w6, w6 = wr.drewN nq := ⟨_, rfl⟩
            have hb6 : Below w5.heap.size w5 w6 := by rw [hw6]; exact pw_below_drewN hbel5 _
            rw [← hw6]
            clear hw6
            have hown6 := own_below hown hb6
            have hsz6 := hb6.size
            have hsz7 : w1.heap.size ≤ w6.heap.size := by omega
            clear hown
            go_wp2_with (at_builtin; refine app w1.heap.size rfl _ _ 22 3 (.int .i64 0) 1 8 rfl Tryz.underlying22 info3 rfl (by decide) (by decide) _ _ _ hown6 _ 1 rfl rfl rfl (by simp [Value.oneCell']) hsz7 (by omega) ?_; intro v1 w8 hown1 hg1 hat)
            go_roundw
            case rel => exact ⟨j + 1, by omega, by go_num, by rw [HH.out]; simpa using hown1, (hbel.trans (hb6.mono hsize)).grown hg1 hsz7 (fun j hj => (own_lt hown6 hj).1)⟩
            case measure => simp [intOf]; omega
        · obtain rfl : q = n := by omega
          have HH : Hid (hitL q rr ss (j + 1) = hitL q rr ss j) := by
            show _ = _
            rw [hitL_succ, if_neg (by
              rw [hitB, List.any_eq_true]
              rintro ⟨i, hi, he⟩
              have := HQ.out i (List.mem_range.1 hi)
              simp [this] at he)]
            simp
          go_wp2_with fail
          go_roundw
          case rel => exact ⟨j + 1, by omega, by go_num, by rw [HH.out]; exact own_below hown hbel5, hbel.trans (hbel5.mono hsize)⟩
          case measure => simp [intOf]; omega
    · obtain rfl : j = s0.size := by omega
      go_wp2_with fail
      go_ret
      exact ⟨_, rfl, by rw [HCL.out]; exact own_mono hown (by omega), hbel0⟩
end Go.Proofs.YtedpnjbbcfiheaaGreatDoor

/- Walk of ReducedOf. -/
import Derived.Test.YtedpnjbbcfiheaaGreatDoorW18
import Derived.Test.YtedpnjbbcfiheaaGreatDoorW3
set_option linter.unusedVariables false
namespace Go.Proofs.YtedpnjbbcfiheaaGreatDoor
open Go.RowKit Go.Sc
theorem redClos_any (x y : Int) (g : Nat) (W : World) (hc : W.cell? ⟨g, 0, none⟩ = some (.int .i64 y)) :
    Calls Tryz.prog 70 #[.int .i64 x, .pointer (some ⟨g, 0, none⟩)] W fun e w' => e = .returned (.bool (x == y)) ∧ W = w' := by
  go_enter Tryz.func70, Tryz.ntmps70
  go_wp2_with fail
  go_ret
  exact ⟨rfl, rfl⟩
def dropV (l : List Int) (v : Nat) : List Int := l.filter fun x => !(x == (v : Int))
def redD (css : List (List Int)) : Nat → List Int → List Int
  | 0, l => l
  | i + 1, l => redD css i (if covB css (dropV l i) = true then dropV l i else l)
def redL (css : List (List Int)) (z : Nat) : List Int := redD css z (iota z)
def pickL (l : List Int) (s : ByteArray) (m : Nat) : List UInt8 := (l.take m).map fun v => s.data.toList[v.toNat]?.getD 0
def pickS (l : List Int) (s : ByteArray) : ByteArray := ⟨(pickL l s l.length).toArray⟩
theorem pickL_succ (l : List Int) (s : ByteArray) (m : Nat) (v : Int) (h : l[m]? = some v) : pickL l s (m + 1) = pickL l s m ++ [s.data.toList[v.toNat]?.getD 0] := by
  have hk : m < l.length := by
    rcases Nat.lt_or_ge m l.length with h' | h'
    · exact h'
    · rw [List.getElem?_eq_none h'] at h; cases h
  have e : l[m] = v := by rw [List.getElem?_eq_getElem hk] at h; simpa using h
  unfold pickL
  rw [List.take_succ_eq_append_getElem hk, List.map_append, e]; rfl
theorem pickL_len (l : List Int) (s : ByteArray) (m : Nat) (h : m ≤ l.length) : (pickL l s m).length = m := by simp [pickL]; omega
def cellN (p : Value) (w : World) : Nat :=
  match p with
  | .pointer (some a) => match w.cell? a with
    | some v => (intOf v + 1).toNat
    | none => 0
  | _ => 0
theorem cellN_at {w : World} {g : Nat} {x : Int} (h : w.cell? ⟨g, 0, none⟩ = some (.int .i64 x)) : cellN (.pointer (some ⟨g, 0, none⟩)) w = (x + 1).toNat := by
  unfold cellN
  simp only [h]
  rfl
def inV (z : Nat) (l : List Int) : Prop := l.length ≤ z ∧ ∀ v ∈ l, 0 ≤ v ∧ v < z
theorem inV_drop {z : Nat} {l : List Int} (h : inV z l) (v : Nat) : inV z (dropV l v) :=
  ⟨Nat.le_trans (List.length_filter_le _ _) h.1, fun x hx => h.2 x ((List.mem_filter.1 hx).1)⟩
theorem inV_iota (z : Nat) : inV z (iota z) := by
  refine ⟨by rw [iota_len]; exact Nat.le_refl _, fun v hv => ?_⟩
  simp [iota] at hv
  omega
theorem inV_red (css : List (List Int)) (z : Nat) : ∀ (i : Nat) (l : List Int), inV z l → inV z (redD css i l)
  | 0, l, h => h
  | i + 1, l, h => by
    unfold redD
    apply inV_red
    split
    · exact inV_drop h i
    · exact h
theorem catL_len (ss : List ByteArray) (k : Int) (ns : List Int) : (catL ss k ns).length ≤ (ss.headD ByteArray.empty).size := hitL_len _ _ _ _
set_option maxRecDepth 100000 in
set_option maxHeartbeats 2000000 in
theorem ReducedOf_any (tv fv : Value) (n : Nat) (ss : List ByteArray) (fs : List (Int × List Int)) (z : Nat) (w : World) (hr : Rd w 1 tv n (ss.map .string)) (hf : RdF w fv fs) (hok : okTest ss) (hz : ∀ s ∈ ss, s.size = z) (hn : n ≤ 100) (hn1 : 1 ≤ n) (hz64 : z ≤ 64)
    (hfo : ∀ f ∈ fs, FOk n f.1 f.2) (hfl : fs.length ≤ 20000) :
    Calls Tryz.prog 15 #[tv, fv] w fun e w' => ∃ v', e = .returned v' ∧ w'.ownsRow w.heap.size 9 1 v' n ((ss.map (pickS (redL (catA ss fs) z))).map .string) ∧ Below w.heap.size w w' := by
  have hl : ss.length = n := by have := hr.len; simpa using this
  have hget : ∀ i, i < n → ∃ s, ss[i]? = some s ∧ s.size = z := fun i hi => by
    refine ⟨ss[i]'(by omega), List.getElem?_eq_getElem _, hz _ (List.getElem_mem _)⟩
  have HG := Lib.hid hget
  have HL := Lib.hid hl
  have hcl : ∀ c ∈ catA ss fs, c.length ≤ 1000000 := by
    intro c hc
    obtain ⟨f, _, rfl⟩ := List.mem_map.1 hc
    have h1 := catL_len ss f.1 f.2
    have h2 : (ss.headD ByteArray.empty).size ≤ 64 := head_ok (by omega) hok
    omega
  have HCN := Lib.hid hcl
  have HCL : Hid ((catA ss fs).length ≤ 20000) := by show _ ≤ _; simp [catA]; exact hfl
  have HAC := Lib.hid (allCaught_any tv fv n ss fs z w hr hf hok hz hn hn1 hz64 hfo hfl)
  obtain ⟨A2, c2, rfl, _, _, _⟩ := hf
  obtain ⟨A, c, rfl, h1, h2, h3, h4⟩ := hr
  obtain ⟨b, off, rfl, hc⟩ := h4 (by omega)
  have HC : Hid (∀ i s, ss[i]? = some s → w.cell? ⟨b, off + i, none⟩ = some (.string s)) := fun i s hs => hc i (.string s) (by simp [hs])
  obtain ⟨s0, hs0, hsz0⟩ := hget 0 (by omega)
  have hc0 : w.cell? ⟨b, off, none⟩ = some (.string s0) := by have := hc 0 (.string s0) (by simp [hs0]); simpa using this
  clear h3 h4 hok hz hfo hs0 hget hl hc hcl
  go_enter Tryz.func15, Tryz.ntmps15
  go_wp2_with fail
  refine HAC.out.mono ?_
  rintro e w1 ⟨v1, rfl, hownA, hb1⟩
  have hc0' := cell_below hb1 _ _ hc0
  have HRL := Lib.hid hownA.rdl
  obtain ⟨A5, c5, rfl, _, _, _⟩ := hownA.rdl
  have HRD : Hid (redL (catA ss fs) z = redD (catA ss fs) z (iota z)) := rfl
  generalize hcss : catA ss fs = css at *
  have HRX := Lib.hid hcss
  clear hownA hcss
  obtain rfl : s0.size = z := hsz0
  go_wp2_with fail
  go_loopw [6, 23] (fun v i wr => ∃ k : Nat, k ≤ s0.size ∧ i = .int .i64 k ∧ wr.ownsRow w1.heap.size 3 1 v k ((iota k).map (.int .i64)) ∧ Below w1.heap.size w1 wr) (fun _ i _ => s0.size - (intOf i).toNat)
  case atStart => exact ⟨0, by omega, rfl, World.ownsRow_nil _ _ _ _, Below.refl _ _⟩
  case round =>
    obtain ⟨k, hk, rfl, hown, hbel⟩ := hrel
    by_cases hlt : k < s0.size
    · have hsz := hbel.size
      go_wp2_with (at_builtin; refine app w1.heap.size rfl _ _ 22 3 (.int .i64 0) 1 8 rfl Tryz.underlying22 info3 rfl (by decide) (by decide) _ _ _ hown _ 1 rfl rfl rfl (by simp [Value.oneCell']) hsz (by omega) ?_; intro v1 w8 hown1 hg1 hat)
      go_roundw
      case rel => exact ⟨k + 1, by omega, by go_num, by rw [iota_succ]; simpa using hown1, hbel.grown hg1 hsz (fun j hj => (own_lt hown hj).1)⟩
      case measure => simp [intOf]; omega
    · obtain rfl : k = s0.size := by omega
      have hc0'' := cell_below hbel _ _ hc0'
      obtain ⟨w5, hw5⟩ : ∃ w5, w5 = wr := ⟨_, rfl⟩
      rw [← hw5] at hown hbel hc0'' ⊢
      clear hw5
      go_wp2_with fail
      go_loopw [6, 8] (fun l p wr => ∃ (j g : Nat) (left : List Int), p = .pointer (some ⟨g, 0, none⟩) ∧ j ≤ s0.size ∧ wr.cell? ⟨g, 0, none⟩ = some (.int .i64 ((j : Int) - 1)) ∧ wr.ownsRow w1.heap.size 3 1 l left.length (left.map (.int .i64)) ∧ Hid (redL css s0.size = redD css j left) ∧ Hid (inV s0.size left) ∧ Below w1.heap.size w1 wr) (fun _ p wr => cellN p wr)
      case atStart =>
        refine ⟨s0.size, _, iota s0.size, rfl, Nat.le_refl _, ?_, ?_, HRD.out, inV_iota _, ?_⟩
        · rw [World.cell?_alloc_at _ _ _ _ rfl]; rfl
        · rw [iota_len]; exact hown.alloc _
        · exact hbel.alloc hbel.size _
      case round =>
        obtain ⟨j, g, left, rfl, hj, hcg, hown, HQ, HI, hbel⟩ := hrel
        have hgl := World.block_lt_of_cell? _ _ hcg
        have hll := HI.out.1
        have hm := cellN_at hcg
        rcases Nat.eq_zero_or_pos j with rfl | hj0
        · have HQ2 : Hid (redL css s0.size = left) := HQ
          have hbe : Below w.heap.size w wr := hb1.trans (hbel.mono hb1.size)
          have hcg2 : wr.cell? ⟨g, 0, none⟩ = some (.int .i64 (-1)) := by rw [hcg]; rfl
          have HLR := Lib.hid (Rd.of_own hown)
          obtain ⟨A6, c6, rfl, q1, q2, q3, q4⟩ := Rd.of_own hown
          obtain ⟨wx, hwx⟩ : ∃ wx, wx = wr := ⟨_, rfl⟩
          rw [← hwx] at hcg2 hbe q4 HLR ⊢
          clear hwx hown hbel hm hcg q3
          go_wp2_with fail
          go_loopw [10, 51] (fun v i wr => ∃ k : Nat, k ≤ n ∧ i = .int .i64 k ∧ wr.ownsRow wx.heap.size 9 1 v k (((ss.take k).map (pickS left)).map .string) ∧ Below wx.heap.size wx wr) (fun _ i _ => n - (intOf i).toNat)
          case atStart => exact ⟨0, by omega, rfl, World.ownsRow_nil _ _ _ _, Below.refl _ _⟩
          case round =>
            obtain ⟨k, hk, rfl, hown, hbel⟩ := hrel
            have hbel0 := hbe.trans (hbel.mono hbe.size)
            by_cases hlt : k < n
            · obtain ⟨s, hsk, hsz⟩ := HG.out k hlt
              have hcell : wr.cell? ⟨b, off + k, none⟩ = some (.string s) := cell_below hbel0 _ _ (HC.out k s hsk)
              have hsize := hbel.size
              have HT : Hid (((ss.take (k + 1)).map (pickS left)).map Value.string = ((ss.take k).map (pickS left)).map Value.string ++ [.string (pickS left s)]) := by
                have e : ss[k]'(by rw [HL.out]; exact hlt) = s := by rw [List.getElem?_eq_getElem (by rw [HL.out]; exact hlt)] at hsk; simpa using hsk
                show _ = _
                rw [List.take_succ_eq_append_getElem (by rw [HL.out]; exact hlt), List.map_append, List.map_append, e]; rfl
              clear hsk
              obtain ⟨w5, hw5⟩ : ∃ w5, w5 = wr := ⟨_, rfl⟩
              rw [← hw5] at hown hbel hbel0 hcell hsize ⊢
              clear hw5
              go_wp2_with fail
              go_loopw [13, 57] (fun v i wr => ∃ k2 : Nat, k2 ≤ left.length ∧ i = .int .i64 k2 ∧ wr.ownsRow w5.heap.size 5 1 v k2 (u8s (pickL left s k2)) ∧ Below w5.heap.size w5 wr) (fun _ i _ => left.length - (intOf i).toNat)
              case atStart => exact ⟨0, by omega, rfl, World.ownsRow_nil _ _ _ _, Below.refl _ _⟩
              case round =>
                obtain ⟨k2, hk2, rfl, hownb, hbel2⟩ := hrel
                by_cases hlt2 : k2 < left.length
                · obtain ⟨b6, off6, rfl, hc6⟩ := q4 (by omega)
                  obtain ⟨v, hv⟩ : ∃ v, left[k2]? = some v := ⟨left[k2]'hlt2, List.getElem?_eq_getElem _⟩
                  have e1 := cell_below hbel2 _ _ (cell_below hbel _ _ (hc6 k2 (.int .i64 v) (by simp [hv])))
                  obtain ⟨hv0, hv1⟩ := HI.out.2 v (List.mem_of_getElem? hv)
                  obtain ⟨v, rfl⟩ := Int.eq_ofNat_of_zero_le hv0
                  have hvs : v < s.size := by omega
                  have HB2 : Hid (u8s (pickL left s (k2 + 1)) = u8s (pickL left s k2) ++ [.int .u8 ((s[v]'hvs).toNat : Int)]) := by
                    show _ = _
                    rw [pickL_succ left s k2 _ hv, u8s, List.map_append, show (((v : Nat) : Int)).toNat = v from rfl, List.getElem?_eq_getElem (by simpa using hvs)]; rfl
                  have hsz2 := hbel2.size
                  clear hv hc6
                  go_wp2_with (at_builtin; refine app w5.heap.size rfl _ _ 79 5 (.int .u8 0) 1 1 rfl Tryz.underlying79 info_u8 rfl (by decide) (by decide) _ _ _ hownb _ 1 rfl rfl rfl (by simp [Value.oneCell']) hsz2 (by omega) ?_; intro v1 w1 hown1 hg1 hat)
                  go_roundw
                  case rel => exact ⟨k2 + 1, by omega, by go_num, by rw [HB2.out]; exact hown1, hbel2.grown hg1 hsz2 (fun j hj => (own_lt hownb hj).1)⟩
                  case measure => simp [intOf]; omega
                · obtain rfl : k2 = left.length := by omega
                  have hown2 := own_below hown hbel2
                  have hcv := own_str (P := Tryz.prog) (src := 79) (dst := 9) Tryz.underlying79 Tryz.underlying5 Tryz.underlying9 hownb
                  have hsz2 := hbel2.size
                  have hsz3 : wx.heap.size ≤ wr.heap.size := Nat.le_trans hsize hsz2
                  have HPB : Hid ((⟨(pickL left s left.length).toArray⟩ : ByteArray) = pickS left s) := rfl
                  rw [HPB.out] at hcv
                  clear hownb hown
                  go_wp2_with (at_builtin; refine app wx.heap.size rfl _ _ 26 9 (.string ⟨#[]⟩) 1 16 rfl Tryz.underlying26 info_str rfl (by decide) (by decide) _ _ _ hown2 _ 1 rfl rfl rfl (by simp [Value.oneCell']) hsz3 (by omega) ?_; intro v1 w1 hown1 hg1 hat)
                  go_roundw
                  case rel => exact ⟨k + 1, by omega, by go_num, by rw [HT.out]; simpa using hown1, (hbel.trans (hbel2.mono hsize)).grown hg1 hsz3 (fun j hj => (own_lt hown2 hj).1)⟩
                  case measure => simp [intOf]; omega
            · obtain rfl : k = n := by omega
              have HTK : Hid (ss.take k = ss) := List.take_of_length_le (by rw [HL.out]; exact Nat.le_refl _)
              rw [HTK.out] at hown
              go_wp2_with fail
              go_ret
              exact ⟨_, rfl, by rw [HRX.out, HQ2.out]; exact own_mono hown hbe.size, hbel0⟩
        · obtain ⟨j, rfl⟩ : ∃ j', j = j' + 1 := ⟨j - 1, by omega⟩
          have HQ2 : Hid (redL css s0.size = redD css j (if covB css (dropV left j) = true then dropV left j else left)) := HQ
          have HI2 := Lib.hid (inV_drop HI.out j)
          have hll2 := HI2.out.1
          have hcg2 : wr.cell? ⟨g, 0, none⟩ = some (.int .i64 (j : Int)) := by rw [hcg]; congr 2; omega
          have hsz := hbel.size
          have HE : Hid (∀ args W, (callFunc 70 args).run Tryz.prog W = .ok (.enter 70 args) W) := enters_of Tryz.func70 (by kernel_rfl) rfl
          clear hcg
          go_wp2_with fail
          refine (Clone_rd _ _ left wr (Rd.of_own hown) (by omega)).mono ?_
          rintro e w3 ⟨v3, rfl, hown3, hb3⟩
          have hs3 := hb3.size
          have HA : Hid (AnsB Tryz.prog wr.heap.size w3 70 #[.pointer (some ⟨g, 0, none⟩)] (fun x => x == (j : Int)) left) := by
            intro W hb x hx
            exact (redClos_any x j g W (cell_below (hb3.trans hb) _ _ hcg2)).mono fun _ _ ⟨e1, e2⟩ => ⟨e1, e2 ▸ Below.refl _ _⟩
          go_wp2_with fail
          refine (DeleteFunc_own wr.heap.size v3 _ left _ _ (fun x => x == (j : Int)) w3 hown3 hs3 (by omega) HA.out HE.out).mono ?_
          rintro e w4 ⟨v4, rfl, hown4, hb4⟩
          have hs4 := hb4.size
          have hb34 := hb3.trans hb4
          have hbel4 := hbel.trans (hb34.mono hsz)
          change w4.ownsRow wr.heap.size 3 1 v4 (dropV left j).length ((dropV left j).map (.int .i64)) at hown4
          go_wp2_with fail
          refine (covers_any _ v4 css (dropV left j) w4 (HRL.out.below hbel4) (by have := HCL.out; omega) HCN.out (Rd.of_own hown4) (by omega)).mono ?_
          rintro e w6 ⟨rfl, hb6⟩
          have hcg6 := cell_below hb6 _ _ (cell_below hb34 _ _ hcg2)
          have hs6 := hb6.size
          have hbel6 := hbel4.trans (hb6.mono (by omega))
          cases hcov : covB css (dropV left j)
          · have HQ3 : Hid (redL css s0.size = redD css j left) := by show _ = _; rw [HQ2.out, if_neg (by rw [hcov]; decide)]
            have hown6 := own_below (own_below hown hb34) hb6
            go_wp2_with fail
            go_roundw
            case rel => exact ⟨j, _, left, rfl, by omega, by rw [World.cell?_alloc_at _ _ _ _ rfl]; rfl, hown6.alloc _, HQ3, HI, hbel6.alloc hbel6.size _⟩
            case measure => rw [hm, cellN_at (x := (j : Int) - 1) (by rw [World.cell?_alloc_at _ _ _ _ rfl]; rfl)]; omega
          · have HQ3 : Hid (redL css s0.size = redD css j (dropV left j)) := by show _ = _; rw [HQ2.out, if_pos hcov]
            have hown6 := own_mono (own_below hown4 hb6) hsz
            go_wp2_with fail
            go_roundw
            case rel => exact ⟨j, _, dropV left j, rfl, by omega, by rw [World.cell?_alloc_at _ _ _ _ rfl]; rfl, hown6.alloc _, HQ3, HI2, hbel6.alloc hbel6.size _⟩
            case measure => rw [hm, cellN_at (x := (j : Int) - 1) (by rw [World.cell?_alloc_at _ _ _ _ rfl]; rfl)]; omega
end Go.Proofs.YtedpnjbbcfiheaaGreatDoor

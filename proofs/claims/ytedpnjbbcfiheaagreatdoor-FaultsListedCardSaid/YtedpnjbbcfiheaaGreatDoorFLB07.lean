import Derived.Test.YtedpnjbbcfiheaaGreatDoorFLB06
import Derived.Test.YtedpnjbbcfiheaaGreatDoorFLB01
import Derived.Test.YtedpnjbbcfiheaaGreatDoorFLB05
set_option linter.unusedSimpArgs false
set_option linter.unusedSectionVars false
set_option linter.unusedVariables false
/- Walk of ReducedOf. -/
set_option linter.unusedVariables false
namespace Go.Proofs.YtedpnjbbcfiheaaGreatDoor
open Go.RowKit Go.Sc
theorem redClos_any (x y : Int) (g : Nat) (W : World) (hc : W.cell? ⟨g, 0, none⟩ = some (.int .i64 y)) :
    Calls Tryz.prog 70 #[.int .i64 x, .pointer (some ⟨g, 0, none⟩)] W fun e w' => e = .returned (.bool (x == y)) ∧ W = w' := by
  go_enter Tryz.func70, Tryz.ntmps70
  go_wp2_with fail
  go_ret
  exact ⟨rfl, rfl⟩
def dropV (l : List Int) (v : Nat) : List Int := l.filter fun x => !(x == (v : Int))
def redD (css : List (List Int)) : Nat → List Int → List Int
  | 0, l => l
  | i + 1, l => redD css i (if covB css (dropV l i) = true then dropV l i else l)
def redL (css : List (List Int)) (z : Nat) : List Int := redD css z (iota z)
def pickL (l : List Int) (s : ByteArray) (m : Nat) : List UInt8 := (l.take m).map fun v => s.data.toList[v.toNat]?.getD 0
def pickS (l : List Int) (s : ByteArray) : ByteArray := ⟨(pickL l s l.length).toArray⟩
theorem pickL_succ (l : List Int) (s : ByteArray) (m : Nat) (v : Int) (h : l[m]? = some v) : pickL l s (m + 1) = pickL l s m ++ [s.data.toList[v.toNat]?.getD 0] := by
  have hk : m < l.length := by
    rcases Nat.lt_or_ge m l.length with h' | h'
    · exact h'
    · rw [List.getElem?_eq_none h'] at h; cases h
  have e : l[m] = v := by rw [List.getElem?_eq_getElem hk] at h; simpa using h
  unfold pickL
  rw [List.take_succ_eq_append_getElem hk, List.map_append, e]; rfl
theorem pickL_len (l : List Int) (s : ByteArray) (m : Nat) (h : m ≤ l.length) : (pickL l s m).length = m := by simp [pickL]; omega
def cellN (p : Value) (w : World) : Nat :=
  match p with
  | .pointer (some a) => match w.cell? a with
    | some v => (intOf v + 1).toNat
    | none => 0
  | _ => 0
theorem cellN_at {w : World} {g : Nat} {x : Int} (h : w.cell? ⟨g, 0, none⟩ = some (.int .i64 x)) : cellN (.pointer (some ⟨g, 0, none⟩)) w = (x + 1).toNat := by
  unfold cellN
  simp only [h]
  rfl
def inV (z : Nat) (l : List Int) : Prop := l.length ≤ z ∧ ∀ v ∈ l, 0 ≤ v ∧ v < z
theorem inV_drop {z : Nat} {l : List Int} (h : inV z l) (v : Nat) : inV z (dropV l v) :=
  ⟨Nat.le_trans (List.length_filter_le _ _) h.1, fun x hx => h.2 x ((List.mem_filter.1 hx).1)⟩
theorem inV_iota (z : Nat) : inV z (iota z) := by
  refine ⟨by rw [iota_len]; exact Nat.le_refl _, fun v hv => ?_⟩
  simp [iota] at hv
  omega
theorem inV_red (css : List (List Int)) (z : Nat) : ∀ (i : Nat) (l : List Int), inV z l → inV z (redD css i l)
  | 0, l, h => h
  | i + 1, l, h => by
    unfold redD
    apply inV_red
    split
    · exact inV_drop h i
    · exact h
theorem catL_len (ss : List ByteArray) (k : Int) (ns : List Int) : (catL ss k ns).length ≤ (ss.headD ByteArray.empty).size := hitL_len _ _ _ _
set_option maxRecDepth 100000 in
set_option maxHeartbeats 2000000 in
theorem ReducedOf_any (tv fv : Value) (n : Nat) (ss : List ByteArray) (fs : List (Int × List Int)) (z : Nat) (w : World) (hr : Rd w 1 tv n (ss.map .string)) (hf : RdF w fv fs) (hok : okTest ss) (hz : ∀ s ∈ ss, s.size = z) (hn : n ≤ 100) (hn1 : 1 ≤ n) (hz64 : z ≤ 64)
    (hfo : ∀ f ∈ fs, FOk n f.1 f.2) (hfl : fs.length ≤ 20000) :
    Calls Tryz.prog 15 #[tv, fv] w fun e w' => ∃ v', e = .returned v' ∧ w'.ownsRow w.heap.size 9 1 v' n ((ss.map (pickS (redL (catA ss fs) z))).map .string) ∧ Below w.heap.size w w' := by
  have hl : ss.length = n := by have := hr.len; simpa using this
  have hget : ∀ i, i < n → ∃ s, ss[i]? = some s ∧ s.size = z := fun i hi => by
    refine ⟨ss[i]'(by omega), List.getElem?_eq_getElem _, hz _ (List.getElem_mem _)⟩
  have HG := Lib.hid hget
  have HL := Lib.hid hl
  have hcl : ∀ c ∈ catA ss fs, c.length ≤ 1000000 := by
    intro c hc
    obtain ⟨f, _, rfl⟩ := List.mem_map.1 hc
    have h1 := catL_len ss f.1 f.2
    have h2 : (ss.headD ByteArray.empty).size ≤ 64 := head_ok (by omega) hok
    omega
  have HCN := Lib.hid hcl
  have HCL : Hid ((catA ss fs).length ≤ 20000) := by show _ ≤ _; simp [catA]; exact hfl
  have HAC := Lib.hid (allCaught_any tv fv n ss fs z w hr hf hok hz hn hn1 hz64 hfo hfl)
  obtain ⟨A2, c2, rfl, _, _, _⟩ := hf
  obtain ⟨A, c, rfl, h1, h2, h3, h4⟩ := hr
  obtain ⟨b, off, rfl, hc⟩ := h4 (by omega)
  have HC : Hid (∀ i s, ss[i]? = some s → w.cell? ⟨b, off + i, none⟩ = some (.string s)) := fun i s hs => hc i (.string s) (by simp [hs])
  obtain ⟨s0, hs0, hsz0⟩ := hget 0 (by omega)
  have hc0 : w.cell? ⟨b, off, none⟩ = some (.string s0) := by have := hc 0 (.string s0) (by simp [hs0]); simpa using this
  clear h3 h4 hok hz hfo hs0 hget hl hc hcl
  go_enter Tryz.func15, Tryz.ntmps15
  go_wp2_with fail
  refine HAC.out.mono ?_
  rintro e w1 ⟨v1, rfl, hownA, hb1⟩
  have hc0' := cell_below hb1 _ _ hc0
  have HRL := Lib.hid hownA.rdl
  obtain ⟨A5, c5, rfl, _, _, _⟩ := hownA.rdl
  have HRD : Hid (redL (catA ss fs) z = redD (catA ss fs) z (iota z)) := rfl
  generalize hcss : catA ss fs = css at *
  have HRX := Lib.hid hcss
  clear hownA hcss
  obtain rfl : s0.size = z := hsz0
  go_wp2_with fail
  go_loopw [6, 23] (fun v i wr => ∃ k : Nat, k ≤ s0.size ∧ i = .int .i64 k ∧ wr.ownsRow w1.heap.size 3 1 v k ((iota k).map (.int .i64)) ∧ Below w1.heap.size w1 wr) (fun _ i _ => s0.size - (intOf i).toNat)
  case atStart => exact ⟨0, by omega, rfl, World.ownsRow_nil _ _ _ _, Below.refl _ _⟩
  case round =>
    obtain ⟨k, hk, rfl, hown, hbel⟩ := hrel
    by_cases hlt : k < s0.size
    · have hsz := hbel.size
      go_wp2_with (at_builtin; refine app w1.heap.size rfl _ _ 22 3 (.int .i64 0) 1 8 rfl Tryz.underlying22 info3 rfl (by decide) (by decide) _ _ _ hown _ 1 rfl rfl rfl (by simp [Value.oneCell']) hsz (by omega) ?_; intro v1 w8 hown1 hg1 hat)
      go_roundw
      case rel => exact ⟨k + 1, by omega, by go_num, by rw [iota_succ]; simpa using hown1, hbel.grown hg1 hsz (fun j hj => (own_lt hown hj).1)⟩
      case measure => simp [intOf]; omega
    · obtain rfl : k = s0.size := by omega
      have hc0'' := cell_below hbel _ _ hc0'
      obtain ⟨w5, hw5⟩ : ∃ w5, w5 = wr := ⟨_, rfl⟩
      rw [← hw5] at hown hbel hc0'' ⊢
      clear hw5
      go_wp2_with fail
      go_loopw [6, 8] (fun l p wr => ∃ (j g : Nat) (left : List Int), p = .pointer (some ⟨g, 0, none⟩) ∧ j ≤ s0.size ∧ wr.cell? ⟨g, 0, none⟩ = some (.int .i64 ((j : Int) - 1)) ∧ wr.ownsRow w1.heap.size 3 1 l left.length (left.map (.int .i64)) ∧ Hid (redL css s0.size = redD css j left) ∧ Hid (inV s0.size left) ∧ Below w1.heap.size w1 wr) (fun _ p wr => cellN p wr)
      case atStart =>
        refine ⟨s0.size, _, iota s0.size, rfl, Nat.le_refl _, ?_, ?_, HRD.out, inV_iota _, ?_⟩
        · rw [World.cell?_alloc_at _ _ _ _ rfl]; rfl
        · rw [iota_len]; exact hown.alloc _
        · exact hbel.alloc hbel.size _
      case round =>
        obtain ⟨j, g, left, rfl, hj, hcg, hown, HQ, HI, hbel⟩ := hrel
        have hgl := World.block_lt_of_cell? _ _ hcg
        have hll := HI.out.1
        have hm := cellN_at hcg
        rcases Nat.eq_zero_or_pos j with rfl | hj0
        · have HQ2 : Hid (redL css s0.size = left) := HQ
          have hbe : Below w.heap.size w wr := hb1.trans (hbel.mono hb1.size)
          have hcg2 : wr.cell? ⟨g, 0, none⟩ = some (.int .i64 (-1)) := by rw [hcg]; rfl
          have HLR := Lib.hid (Rd.of_own hown)
          obtain ⟨A6, c6, rfl, q1, q2, q3, q4⟩ := Rd.of_own hown
          obtain ⟨wx, hwx⟩ : ∃ wx, wx = wr := ⟨_, rfl⟩
          rw [← hwx] at hcg2 hbe q4 HLR ⊢
          clear hwx hown hbel hm hcg q3
          go_wp2_with fail
          go_loopw [10, 51] (fun v i wr => ∃ k : Nat, k ≤ n ∧ i = .int .i64 k ∧ wr.ownsRow wx.heap.size 9 1 v k (((ss.take k).map (pickS left)).map .string) ∧ Below wx.heap.size wx wr) (fun _ i _ => n - (intOf i).toNat)
          case atStart => exact ⟨0, by omega, rfl, World.ownsRow_nil _ _ _ _, Below.refl _ _⟩
          case round =>
            obtain ⟨k, hk, rfl, hown, hbel⟩ := hrel
            have hbel0 := hbe.trans (hbel.mono hbe.size)
            by_cases hlt : k < n
            · obtain ⟨s, hsk, hsz⟩ := HG.out k hlt
              have hcell : wr.cell? ⟨b, off + k, none⟩ = some (.string s) := cell_below hbel0 _ _ (HC.out k s hsk)
              have hsize := hbel.size
              have HT : Hid (((ss.take (k + 1)).map (pickS left)).map Value.string = ((ss.take k).map (pickS left)).map Value.string ++ [.string (pickS left s)]) := by
                have e : ss[k]'(by rw [HL.out]; exact hlt) = s := by rw [List.getElem?_eq_getElem (by rw [HL.out]; exact hlt)] at hsk; simpa using hsk
                show _ = _
                rw [List.take_succ_eq_append_getElem (by rw [HL.out]; exact hlt), List.map_append, List.map_append, e]; rfl
              clear hsk
              obtain ⟨w5, hw5⟩ : ∃ w5, w5 = wr := ⟨_, rfl⟩
              rw [← hw5] at hown hbel hbel0 hcell hsize ⊢
              clear hw5
              go_wp2_with fail
              go_loopw [13, 57] (fun v i wr => ∃ k2 : Nat, k2 ≤ left.length ∧ i = .int .i64 k2 ∧ wr.ownsRow w5.heap.size 5 1 v k2 (u8s (pickL left s k2)) ∧ Below w5.heap.size w5 wr) (fun _ i _ => left.length - (intOf i).toNat)
              case atStart => exact ⟨0, by omega, rfl, World.ownsRow_nil _ _ _ _, Below.refl _ _⟩
              case round =>
                obtain ⟨k2, hk2, rfl, hownb, hbel2⟩ := hrel
                by_cases hlt2 : k2 < left.length
                · obtain ⟨b6, off6, rfl, hc6⟩ := q4 (by omega)
                  obtain ⟨v, hv⟩ : ∃ v, left[k2]? = some v := ⟨left[k2]'hlt2, List.getElem?_eq_getElem _⟩
                  have e1 := cell_below hbel2 _ _ (cell_below hbel _ _ (hc6 k2 (.int .i64 v) (by simp [hv])))
                  obtain ⟨hv0, hv1⟩ := HI.out.2 v (List.mem_of_getElem? hv)
                  obtain ⟨v, rfl⟩ := Int.eq_ofNat_of_zero_le hv0
                  have hvs : v < s.size := by omega
                  have HB2 : Hid (u8s (pickL left s (k2 + 1)) = u8s (pickL left s k2) ++ [.int .u8 ((s[v]'hvs).toNat : Int)]) := by
                    show _ = _
                    rw [pickL_succ left s k2 _ hv, u8s, List.map_append, show (((v : Nat) : Int)).toNat = v from rfl, List.getElem?_eq_getElem (by simpa using hvs)]; rfl
                  have hsz2 := hbel2.size
                  clear hv hc6
                  go_wp2_with (at_builtin; refine app w5.heap.size rfl _ _ 79 5 (.int .u8 0) 1 1 rfl Tryz.underlying79 info_u8 rfl (by decide) (by decide) _ _ _ hownb _ 1 rfl rfl rfl (by simp [Value.oneCell']) hsz2 (by omega) ?_; intro v1 w1 hown1 hg1 hat)
                  go_roundw
                  case rel => exact ⟨k2 + 1, by omega, by go_num, by rw [HB2.out]; exact hown1, hbel2.grown hg1 hsz2 (fun j hj => (own_lt hownb hj).1)⟩
                  case measure => simp [intOf]; omega
                · obtain rfl : k2 = left.length := by omega
                  have hown2 := own_below hown hbel2
                  have hcv := own_str (P := Tryz.prog) (src := 79) (dst := 9) Tryz.underlying79 Tryz.underlying5 Tryz.underlying9 hownb
                  have hsz2 := hbel2.size
                  have hsz3 : wx.heap.size ≤ wr.heap.size := Nat.le_trans hsize hsz2
                  have HPB : Hid ((⟨(pickL left s left.length).toArray⟩ : ByteArray) = pickS left s) := rfl
                  rw [HPB.out] at hcv
                  clear hownb hown
                  go_wp2_with (at_builtin; refine app wx.heap.size rfl _ _ 26 9 (.string ⟨#[]⟩) 1 16 rfl Tryz.underlying26 info_str rfl (by decide) (by decide) _ _ _ hown2 _ 1 rfl rfl rfl (by simp [Value.oneCell']) hsz3 (by omega) ?_; intro v1 w1 hown1 hg1 hat)
                  go_roundw
                  case rel => exact ⟨k + 1, by omega, by go_num, by rw [HT.out]; simpa using hown1, (hbel.trans (hbel2.mono hsize)).grown hg1 hsz3 (fun j hj => (own_lt hown2 hj).1)⟩
                  case measure => simp [intOf]; omega
            · obtain rfl : k = n := by omega
              have HTK : Hid (ss.take k = ss) := List.take_of_length_le (by rw [HL.out]; exact Nat.le_refl _)
              rw [HTK.out] at hown
              go_wp2_with fail
              go_ret
              exact ⟨_, rfl, by rw [HRX.out, HQ2.out]; exact own_mono hown hbe.size, hbel0⟩
        · obtain ⟨j, rfl⟩ : ∃ j', j = j' + 1 := ⟨j - 1, by omega⟩
          have HQ2 : Hid (redL css s0.size = redD css j (if covB css (dropV left j) = true then dropV left j else left)) := HQ
          have HI2 := Lib.hid (inV_drop HI.out j)
          have hll2 := HI2.out.1
          have hcg2 : wr.cell? ⟨g, 0, none⟩ = some (.int .i64 (j : Int)) := by rw [hcg]; congr 2; omega
          have hsz := hbel.size
          have HE : Hid (∀ args W, (callFunc 70 args).run Tryz.prog W = .ok (.enter 70 args) W) := enters_of Tryz.func70 (by kernel_rfl) rfl
          clear hcg
          go_wp2_with fail
          refine (Clone_rd _ _ left wr (Rd.of_own hown) (by omega)).mono ?_
          rintro e w3 ⟨v3, rfl, hown3, hb3⟩
          have hs3 := hb3.size
          have HA : Hid (AnsB Tryz.prog wr.heap.size w3 70 #[.pointer (some ⟨g, 0, none⟩)] (fun x => x == (j : Int)) left) := by
            intro W hb x hx
            exact (redClos_any x j g W (cell_below (hb3.trans hb) _ _ hcg2)).mono fun _ _ ⟨e1, e2⟩ => ⟨e1, e2 ▸ Below.refl _ _⟩
          go_wp2_with fail
          refine (DeleteFunc_own wr.heap.size v3 _ left _ _ (fun x => x == (j : Int)) w3 hown3 hs3 (by omega) HA.out HE.out).mono ?_
          rintro e w4 ⟨v4, rfl, hown4, hb4⟩
          have hs4 := hb4.size
          have hb34 := hb3.trans hb4
          have hbel4 := hbel.trans (hb34.mono hsz)
          change w4.ownsRow wr.heap.size 3 1 v4 (dropV left j).length ((dropV left j).map (.int .i64)) at hown4
          go_wp2_with fail
          refine (covers_any _ v4 css (dropV left j) w4 (HRL.out.below hbel4) (by have := HCL.out; omega) HCN.out (Rd.of_own hown4) (by omega)).mono ?_
          rintro e w6 ⟨rfl, hb6⟩
          have hcg6 := cell_below hb6 _ _ (cell_below hb34 _ _ hcg2)
          have hs6 := hb6.size
          have hbel6 := hbel4.trans (hb6.mono (by omega))
          cases hcov : covB css (dropV left j)
          · have HQ3 : Hid (redL css s0.size = redD css j left) := by show _ = _; rw [HQ2.out, if_neg (by rw [hcov]; decide)]
            have hown6 := own_below (own_below hown hb34) hb6
            go_wp2_with fail
            go_roundw
            case rel => exact ⟨j, _, left, rfl, by omega, by rw [World.cell?_alloc_at _ _ _ _ rfl]; rfl, hown6.alloc _, HQ3, HI, hbel6.alloc hbel6.size _⟩
            case measure => rw [hm, cellN_at (x := (j : Int) - 1) (by rw [World.cell?_alloc_at _ _ _ _ rfl]; rfl)]; omega
          · have HQ3 : Hid (redL css s0.size = redD css j (dropV left j)) := by show _ = _; rw [HQ2.out, if_pos hcov]
            have hown6 := own_mono (own_below hown4 hb6) hsz
            go_wp2_with fail
            go_roundw
            case rel => exact ⟨j, _, dropV left j, rfl, by omega, by rw [World.cell?_alloc_at _ _ _ _ rfl]; rfl, hown6.alloc _, HQ3, HI2, hbel6.alloc hbel6.size _⟩
            case measure => rw [hm, cellN_at (x := (j : Int) - 1) (by rw [World.cell?_alloc_at _ _ _ _ rfl]; rfl)]; omega
end Go.Proofs.YtedpnjbbcfiheaaGreatDoor

/- slices.Compare at numbers. -/
set_option linter.unusedVariables false
namespace Go.Proofs.YtedpnjbbcfiheaaGreatDoor
open Go.RowKit Go.Sc
def cmpZ (x y : Int) : Int := if x < y then -1 else if y < x then 1 else 0
def cmpL : List Int → List Int → Int
  | [], [] => 0
  | [], _ :: _ => -1
  | _ :: _, [] => 1
  | x :: xs, y :: ys => if cmpZ x y = 0 then cmpL xs ys else cmpZ x y
theorem cmpZ_any (x y : Int) (w : World) : Calls Tryz.prog 123 #[.int .i64 x, .int .i64 y] w fun e w' => e = .returned (.int .i64 (cmpZ x y)) ∧ w = w' :=
  (Tryz.cmp_Compare_int x y w).mono fun _ _ ⟨a, b⟩ => ⟨by rw [a]; rfl, b.symm⟩
set_option maxRecDepth 100000 in
set_option maxHeartbeats 1000000 in
theorem Compare_any (v u : Value) (n m : Nat) (xs ys : List Int) (w : World) (hr : Rd w 1 v n (xs.map (.int .i64))) (hs : Rd w 1 u m (ys.map (.int .i64))) (hn : n ≤ 1000000) (hm : m ≤ 1000000) :
    Calls Tryz.prog 72 #[v, u] w fun e w' => e = .returned (.int .i64 (cmpL xs ys)) ∧ w = w' := by
  have hl : xs.length = n := by have := hr.len; simpa using this
  have hl2 : ys.length = m := by have := hs.len; simpa using this
  obtain ⟨A, c, rfl, h1, h2, h3, h4⟩ := hr
  obtain ⟨A2, c2, rfl, g1, g2, g3, g4⟩ := hs
  have HL := Lib.hid hl
  have HL2 := Lib.hid hl2
  clear h3 g3 hl hl2
  go_enter Tryz.func72, Tryz.ntmps72
  go_wp2_with fail
  go_loop [11] (fun i => ∃ k : Nat, k ≤ n ∧ k ≤ m ∧ i = .int .i64 k ∧ Hid (cmpL xs ys = cmpL (xs.drop k) (ys.drop k))) (fun i => n - (intOf i).toNat)
  case atStart => exact ⟨0, by omega, by omega, rfl, rfl⟩
  case round =>
    obtain ⟨k, hk, hkm, rfl, HK⟩ := hrel
    by_cases hlt : k < n
    · obtain ⟨b, off, rfl, hc⟩ := h4 (by omega)
      obtain ⟨x, hx⟩ : ∃ x, xs[k]? = some x := ⟨xs[k]'(by rw [HL.out]; omega), List.getElem?_eq_getElem _⟩
      have c1 := hc k (.int .i64 x) (by simp [hx])
      have HX := Lib.hid (drop_at hx)
      clear hc hx
      by_cases hlt2 : k < m
      · obtain ⟨b2, off2, rfl, hc2⟩ := g4 (by omega)
        obtain ⟨y, hy⟩ : ∃ y, ys[k]? = some y := ⟨ys[k]'(by rw [HL2.out]; omega), List.getElem?_eq_getElem _⟩
        have c2 := hc2 k (.int .i64 y) (by simp [hy])
        have HZ : Hid (cmpL xs ys = if cmpZ x y = 0 then cmpL (xs.drop (k + 1)) (ys.drop (k + 1)) else cmpZ x y) := by
          show _ = _
          rw [HK.out, HX.out, drop_at hy]; rfl
        clear hc2 hy HK
        by_cases h0 : cmpZ x y = 0
        · have HZ2 : Hid (cmpL xs ys = cmpL (xs.drop (k + 1)) (ys.drop (k + 1))) := by show _ = _; rw [HZ.out, if_pos h0]
          go_wp2_with fail
          refine (cmpZ_any x y w).mono ?_
          rintro e w' ⟨rfl, rfl⟩
          rw [h0]
          go_wp2_with fail
          go_round
          case rel => exact ⟨k + 1, by omega, by omega, by go_num, HZ2⟩
          case measure => simp [intOf]; omega
        · have HZ2 : Hid (cmpL xs ys = cmpZ x y) := by show _ = _; rw [HZ.out, if_neg h0]
          have e0 : (cmpZ x y == 0) = false := beq_eq_false_iff_ne.2 h0
          go_wp2_with fail
          refine (cmpZ_any x y w).mono ?_
          rintro e w' ⟨rfl, rfl⟩
          generalize cmpZ x y = r at *
          go_wp2_with fail
          go_ret
          exact ⟨ret_int HZ2.out.symm, rfl⟩
      · have HZ : Hid (cmpL xs ys = 1) := by
          show _ = _
          rw [HK.out, HX.out, show ys.drop k = [] from List.drop_eq_nil_of_le (by rw [HL2.out]; omega)]; rfl
        go_wp2_with fail
        go_ret
        exact ⟨ret_int HZ.out.symm, rfl⟩
    · obtain rfl : k = n := by omega
      by_cases hlt2 : k < m
      · have HZ : Hid (cmpL xs ys = -1) := by
          show _ = _
          rw [HK.out, List.drop_eq_nil_of_le (by rw [HL.out]; omega)]
          obtain ⟨y, hy⟩ : ∃ y, ys[k]? = some y := ⟨ys[k]'(by rw [HL2.out]; omega), List.getElem?_eq_getElem _⟩
          rw [drop_at hy]; rfl
        go_wp2_with fail
        go_ret
        exact ⟨ret_int HZ.out.symm, rfl⟩
      · have HZ : Hid (cmpL xs ys = 0) := by
          show _ = _
          rw [HK.out, List.drop_eq_nil_of_le (by rw [HL.out]; omega), List.drop_eq_nil_of_le (by rw [HL2.out]; omega)]; rfl
        go_wp2_with fail
        go_ret
        exact ⟨ret_int HZ.out.symm, rfl⟩
end Go.Proofs.YtedpnjbbcfiheaaGreatDoor

/- Walk of SmallestOf. -/
set_option linter.unusedVariables false
namespace Go.Proofs.YtedpnjbbcfiheaaGreatDoor
open Go.RowKit Go.Sc
def smS (css : List (List Int)) (z : Nat) (st : Bool × List Int) (mask : Nat) : Bool × List Int :=
  if covB css (bitsL mask z) = true ∧ (st.1 = false ∨ (bitsL mask z).length < st.2.length ∨ ((bitsL mask z).length = st.2.length ∧ cmpL (bitsL mask z) st.2 < 0)) then (true, bitsL mask z) else st
def smR (css : List (List Int)) (z : Nat) (M : Nat) : Bool × List Int := (List.range M).foldl (smS css z) (false, [])
theorem smR_succ (css : List (List Int)) (z M : Nat) : smR css z (M + 1) = smS css z (smR css z M) M := by
  unfold smR
  rw [List.range_succ, List.foldl_append]; rfl
theorem smR_len (css : List (List Int)) (z M : Nat) : (smR css z M).2.length ≤ z := by
  induction M with
  | zero => simp [smR]
  | succ M ih =>
    rw [smR_succ, smS]
    split
    · exact bitsL_len _ _
    · exact ih
theorem shr_and_i (q i : Nat) (h : q < 9223372036854775808) : bits .and .i64 ((q : Int) / 2 ^ i) 1 = if q.testBit i then 1 else 0 := by
  have hq : q / 2 ^ i < 9223372036854775808 := Nat.lt_of_le_of_lt (Nat.div_le_self _ _) h
  have e := (bits_nat .i64 63 (by decide) (fun n h0 h1 => by rw [IntKind.wrap_i64]; simp at h1; omega) (q / 2 ^ i) 1 (by simpa using hq) (by decide)).1
  have e2 : ((q : Int) / 2 ^ i) = ((q / 2 ^ i : Nat) : Int) := by rw [Int.natCast_ediv]; simp
  rw [e2, show (1 : Int) = ((1 : Nat) : Int) from rfl, e]
  rw [Nat.testBit_eq_decide_div_mod_eq, show (1 : Nat) = 2 ^ 1 - 1 from rfl, Nat.and_two_pow_sub_one_eq_mod]
  have := Nat.mod_lt (q / 2 ^ i) (show 0 < 2 by decide)
  by_cases h1 : q / 2 ^ i % 2 = 1
  · simp [h1]
  · have h0 : q / 2 ^ i % 2 = 0 := by omega
    simp [h0]
theorem wrap_pow (z : Nat) (h : z ≤ 14) : wrap64 ((2 : Int) ^ z) = ((2 ^ z : Nat) : Int) := by
  have hp0 : 2 ^ z ≤ 2 ^ 14 := Nat.pow_le_pow_right (by decide) h
  have e : (2 : Int) ^ z = ((2 ^ z : Nat) : Int) := by simp
  rw [e]
  generalize 2 ^ z = m at *
  unfold wrap64
  omega
set_option maxRecDepth 100000 in
set_option maxHeartbeats 2000000 in
theorem SmallestOf_big (tv fv : Value) (n : Nat) (ss : List ByteArray) (fs : List (Int × List Int)) (z : Nat) (w : World) (hr : Rd w 1 tv n (ss.map .string)) (hf : RdF w fv fs) (hz : ∀ s ∈ ss, s.size = z) (hn1 : 1 ≤ n) (hz64 : z ≤ 64) (hbig : 14 < z) :
    Calls Tryz.prog 16 #[tv, fv] w fun e w' => e = .returned (.tuple #[.slice none 0 0, .int .i64 2]) ∧ w = w' := by
  have hl : ss.length = n := by have := hr.len; simpa using this
  obtain ⟨A2, c2, rfl, _, _, _⟩ := hf
  obtain ⟨A, c, rfl, h1, h2, h3, h4⟩ := hr
  obtain ⟨b, off, rfl, hc⟩ := h4 (by omega)
  obtain ⟨s0, hs0, hsz0⟩ : ∃ s0, ss[0]? = some s0 ∧ s0.size = z := ⟨ss[0]'(by omega), List.getElem?_eq_getElem _, hz _ (List.getElem_mem _)⟩
  have hc0 : w.cell? ⟨b, off, none⟩ = some (.string s0) := by have := hc 0 (.string s0) (by simp [hs0]); simpa using this
  clear h3 h4 hz hs0 hl hc
  go_enter Tryz.func16, Tryz.ntmps16
  go_wp2_with fail
  go_ret2
  exact ⟨rfl, rfl⟩
set_option maxRecDepth 100000 in
set_option maxHeartbeats 2000000 in
theorem SmallestOf_any (tv fv : Value) (n : Nat) (ss : List ByteArray) (fs : List (Int × List Int)) (z : Nat) (w : World) (hr : Rd w 1 tv n (ss.map .string)) (hf : RdF w fv fs) (hok : okTest ss) (hz : ∀ s ∈ ss, s.size = z) (hn : n ≤ 100) (hn1 : 1 ≤ n) (hz14 : z ≤ 14)
    (hfo : ∀ f ∈ fs, FOk n f.1 f.2) (hfl : fs.length ≤ 20000) :
    Calls Tryz.prog 16 #[tv, fv] w fun e w' => ∃ v', e = .returned (.tuple #[v', .int .i64 0]) ∧ w'.ownsRow w.heap.size 3 1 v' (smR (catA ss fs) z (2 ^ z)).2.length ((smR (catA ss fs) z (2 ^ z)).2.map (.int .i64)) ∧ Below w.heap.size w w' := by
  have hl : ss.length = n := by have := hr.len; simpa using this
  have hcl : ∀ c ∈ catA ss fs, c.length ≤ 1000000 := by
    intro c hc
    obtain ⟨f, _, rfl⟩ := List.mem_map.1 hc
    have h1 := catL_len ss f.1 f.2
    have h2 : (ss.headD ByteArray.empty).size ≤ 64 := head_ok (by omega) hok
    omega
  have HCN := Lib.hid hcl
  have HCL : Hid ((catA ss fs).length ≤ 20000) := by show _ ≤ _; simp [catA]; exact hfl
  have HAC := Lib.hid (allCaught_any tv fv n ss fs z w hr hf hok hz hn hn1 (by omega) hfo hfl)
  obtain ⟨A2, c2, rfl, _, _, _⟩ := hf
  obtain ⟨A, c, rfl, h1, h2, h3, h4⟩ := hr
  obtain ⟨b, off, rfl, hc⟩ := h4 (by omega)
  obtain ⟨s0, hs0, hsz0⟩ : ∃ s0, ss[0]? = some s0 ∧ s0.size = z := ⟨ss[0]'(by omega), List.getElem?_eq_getElem _, hz _ (List.getElem_mem _)⟩
  have hc0 : w.cell? ⟨b, off, none⟩ = some (.string s0) := by have := hc 0 (.string s0) (by simp [hs0]); simpa using this
  have hp0 : 2 ^ z ≤ 2 ^ 14 := Nat.pow_le_pow_right (by decide) hz14
  clear h3 h4 hok hz hfo hs0 hl hc hcl
  go_enter Tryz.func16, Tryz.ntmps16
  go_wp2_with fail
  refine HAC.out.mono ?_
  rintro e w1 ⟨v1, rfl, hownA, hb1⟩
  have HRL := Lib.hid hownA.rdl
  obtain ⟨A5, c5, rfl, _, _, _⟩ := hownA.rdl
  generalize hcss : catA ss fs = css at *
  have HRX := Lib.hid hcss
  clear hownA hcss
  obtain rfl : s0.size = z := hsz0
  have HW := Lib.hid (wrap_pow s0.size hz14)
  go_wp2_with fail
  rw [HW.out]
  generalize hM : 2 ^ s0.size = M at *
  have HM := Lib.hid hM
  clear hM
  go_loopw [8, 9, 24] (fun bv fv i wr => ∃ (j : Nat) (fd : Bool) (best : List Int), j ≤ M ∧ i = .int .i64 j ∧ fv = .bool fd ∧ wr.ownsRow w1.heap.size 3 1 bv best.length (best.map (.int .i64)) ∧ Hid (smR css s0.size j = (fd, best)) ∧ best.length ≤ s0.size ∧ Below w1.heap.size w1 wr) (fun _ _ i _ => M - (intOf i).toNat)
  case atStart => exact ⟨0, false, [], by omega, rfl, rfl, World.ownsRow_nil _ _ _ _, rfl, by simp, Below.refl _ _⟩
  case round =>
    obtain ⟨j, fd, best, hj, rfl, rfl, hown, HQ, hbz, hbel⟩ := hrel
    by_cases hlt : j < M
    · have hsz := hbel.size
      obtain ⟨w5, hw5⟩ : ∃ w5, w5 = wr := ⟨_, rfl⟩
      rw [← hw5] at hown hbel hsz ⊢
      clear hw5
      go_wp2_with fail
      go_loopw [11, 28] (fun v i wr => ∃ k : Nat, k ≤ s0.size ∧ i = .int .i64 k ∧ wr.ownsRow w5.heap.size 3 1 v (bitsL j k).length ((bitsL j k).map (.int .i64)) ∧ Below w5.heap.size w5 wr) (fun _ i _ => s0.size - (intOf i).toNat)
      case atStart => exact ⟨0, by omega, rfl, World.ownsRow_nil _ _ _ _, Below.refl _ _⟩
      case round =>
        obtain ⟨k, hk, rfl, hownv, hbel2⟩ := hrel
        have hsz2 := hbel2.size
        have hlen := bitsL_len j k
        by_cases hltk : k < s0.size
        · have HB := Lib.hid (shr_and_i j k (by omega))
          cases ht : j.testBit k
          · have HB2 : Hid (bitsL j (k + 1) = bitsL j k) := by show _ = _; rw [bitsL_succ, ht]; simp
            have hbb : (bits .and .i64 ((j : Int) / 2 ^ k) 1 == 1) = false := by rw [HB.out, ht]; rfl
            go_wp2_with fail
            go_roundw
            case rel => exact ⟨k + 1, by omega, by go_num, by rw [HB2.out]; exact hownv, hbel2⟩
            case measure => simp [intOf]; omega
          · have HB2 : Hid (bitsL j (k + 1) = bitsL j k ++ [(k : Int)]) := by show _ = _; rw [bitsL_succ, ht]; simp
            have hbb : (bits .and .i64 ((j : Int) / 2 ^ k) 1 == 1) = true := by rw [HB.out, ht]; rfl
            go_wp2_with (at_builtin; refine app w5.heap.size rfl _ _ 22 3 (.int .i64 0) 1 8 rfl Tryz.underlying22 info3 rfl (by decide) (by decide) _ _ _ hownv _ 1 rfl rfl rfl (by simp [Value.oneCell']) hsz2 (by omega) ?_; intro v1 w1 hown1 hg1 hat)
            go_roundw
            case rel => exact ⟨k + 1, by omega, by go_num, by rw [HB2.out]; simpa using hown1, hbel2.grown hg1 hsz2 (fun j hj => (own_lt hownv hj).1)⟩
            case measure => simp [intOf]; omega
        · obtain rfl : k = s0.size := by omega
          have hbel3 := hbel.trans (hbel2.mono hsz)
          have hownB := own_below hown hbel2
          have hRV := Rd.of_own hownv
          have hRB := Rd.of_own hownB
          have hownV := own_mono hownv hsz
          have HCV := Lib.hid (covers_any _ _ css (bitsL j s0.size) wr (HRL.out.below hbel3) (by have := HCL.out; omega) HCN.out hRV (by omega))
          have HS : Hid (smR css s0.size (j + 1) = if covB css (bitsL j s0.size) = true ∧ (fd = false ∨ (bitsL j s0.size).length < best.length ∨ ((bitsL j s0.size).length = best.length ∧ cmpL (bitsL j s0.size) best < 0)) then (true, bitsL j s0.size) else (fd, best)) := by
            show _ = _
            rw [smR_succ, HQ.out]; rfl
          have HV := Lib.hid hRV
          have HB := Lib.hid hRB
          obtain ⟨A7, c7, rfl, _, _, _, _⟩ := hRV
          obtain ⟨A8, c8, rfl, _, _, _, _⟩ := hRB
          clear hown hownv
          have hsr := hbel3.size
          generalize bitsL j s0.size = v at *
          cases hcov : covB css v
          · have HS2 : Hid (smR css s0.size (j + 1) = (fd, best)) := by show _ = _; rw [HS.out, if_neg (by rw [hcov]; simp)]
            go_wp2_with (go_at_call 71; refine HCV.out.mono ?_; rintro e w6 ⟨rfl, hb6⟩; rw [hcov])
            go_roundw
            case rel => exact ⟨j + 1, fd, best, by omega, by go_num, rfl, own_below hownB hb6, HS2, hbz, hbel3.trans (hb6.mono hsr)⟩
            case measure => simp [intOf]; omega
          · cases fd
            · have HS2 : Hid (smR css s0.size (j + 1) = (true, v)) := by show _ = _; rw [HS.out, if_pos (by rw [hcov]; simp)]
              go_wp2_with (go_at_call 71; refine HCV.out.mono ?_; rintro e w6 ⟨rfl, hb6⟩; rw [hcov])
              go_roundw
              case rel => exact ⟨j + 1, true, v, by omega, by go_num, rfl, own_below hownV hb6, HS2, hlen, hbel3.trans (hb6.mono hsr)⟩
              case measure => simp [intOf]; omega
            · rcases Nat.lt_trichotomy v.length best.length with hl1 | hl1 | hl1
              · have HS2 : Hid (smR css s0.size (j + 1) = (true, v)) := by show _ = _; rw [HS.out, if_pos (by rw [hcov]; exact ⟨rfl, .inr (.inl hl1)⟩)]
                go_wp2_with (go_at_call 71; refine HCV.out.mono ?_; rintro e w6 ⟨rfl, hb6⟩; rw [hcov])
                go_roundw
                case rel => exact ⟨j + 1, true, v, by omega, by go_num, rfl, own_below hownV hb6, HS2, hlen, hbel3.trans (hb6.mono hsr)⟩
                case measure => simp [intOf]; omega
              · have eb : ((v.length : Int) == (best.length : Int)) = true := beq_iff_eq.2 (by omega)
                have HL1 := Lib.hid hl1
                have hnl : best.length ≤ v.length := by omega
                clear hl1
                by_cases hcmp : cmpL v best < 0
                · have HS2 : Hid (smR css s0.size (j + 1) = (true, v)) := by show _ = _; rw [HS.out, if_pos (by rw [hcov]; exact ⟨rfl, .inr (.inr ⟨HL1.out, hcmp⟩)⟩)]
                  go_wp2_with (first
                    | (go_at_call 71; refine HCV.out.mono ?_; rintro e w6 ⟨rfl, hb6⟩; rw [hcov])
                    | (go_at_call 72; refine (Compare_any _ _ _ _ v best _ (HV.out.below hb6) (HB.out.below hb6) (by omega) (by omega)).mono ?_; rintro e w7 ⟨rfl, rfl⟩))
                  go_roundw
                  case rel => exact ⟨j + 1, true, v, by omega, by go_num, rfl, own_below hownV hb6, HS2, hlen, hbel3.trans (hb6.mono hsr)⟩
                  case measure => simp [intOf]; omega
                · have HS2 : Hid (smR css s0.size (j + 1) = (true, best)) := by
                    show _ = _
                    rw [HS.out, if_neg]
                    rintro ⟨_, h | h | h⟩
                    · cases h
                    · omega
                    · exact hcmp h.2
                  go_wp2_with (first
                    | (go_at_call 71; refine HCV.out.mono ?_; rintro e w6 ⟨rfl, hb6⟩; rw [hcov])
                    | (go_at_call 72; refine (Compare_any _ _ _ _ v best _ (HV.out.below hb6) (HB.out.below hb6) (by omega) (by omega)).mono ?_; rintro e w7 ⟨rfl, rfl⟩))
                  go_roundw
                  case rel => exact ⟨j + 1, true, best, by omega, by go_num, rfl, own_below hownB hb6, HS2, hbz, hbel3.trans (hb6.mono hsr)⟩
                  case measure => simp [intOf]; omega
              · have eb : ((v.length : Int) == (best.length : Int)) = false := beq_eq_false_iff_ne.2 (by omega)
                have HS2 : Hid (smR css s0.size (j + 1) = (true, best)) := by
                  show _ = _
                  rw [HS.out, if_neg]
                  rintro ⟨_, h | h | h⟩
                  · cases h
                  · omega
                  · omega
                go_wp2_with (go_at_call 71; refine HCV.out.mono ?_; rintro e w6 ⟨rfl, hb6⟩; rw [hcov])
                go_roundw
                case rel => exact ⟨j + 1, true, best, by omega, by go_num, rfl, own_below hownB hb6, HS2, hbz, hbel3.trans (hb6.mono hsr)⟩
                case measure => simp [intOf]; omega
    · obtain rfl : j = M := by omega
      go_wp2_with fail
      go_ret2
      exact ⟨_, rfl, by rw [HRX.out, HM.out, HQ.out]; exact own_mono hown hb1.size, hb1.trans (hbel.mono hb1.size)⟩
end Go.Proofs.YtedpnjbbcfiheaaGreatDoor

/- Plain laws on masks: the program's answers (numbers whose bits are vectors) are the reference's (lists of vectors). -/
set_option linter.unusedVariables false
namespace Go.Proofs.YtedpnjbbcfiheaaGreatDoor
open Go.RowKit Go.Sc Go.Sort
theorem mem_bitsL (m z : Nat) (x : Int) : x ∈ bitsL m z ↔ ∃ i : Nat, i < z ∧ m.testBit i = true ∧ x = i := by
  unfold bitsL
  simp only [List.mem_map, List.mem_filter, List.mem_range]
  constructor
  · rintro ⟨i, ⟨h1, h2⟩, rfl⟩; exact ⟨i, h1, h2, rfl⟩
  · rintro ⟨i, h1, h2, rfl⟩; exact ⟨i, ⟨h1, h2⟩, rfl⟩
theorem bitsL_sorted (m z : Nat) : (bitsL m z).Pairwise (· < ·) := by
  unfold bitsL
  rw [List.pairwise_map]
  refine List.Pairwise.imp (fun h => ?_) (List.Pairwise.filter _ (List.pairwise_lt_range))
  exact Int.ofNat_lt.2 h
theorem sorted_ext : ∀ (a b : List Int), a.Pairwise (· < ·) → b.Pairwise (· < ·) → (∀ x, x ∈ a ↔ x ∈ b) → a = b
  | [], [], _, _, _ => rfl
  | [], y :: b, _, _, h => by have := (h y).2 (List.mem_cons_self ..); simp at this
  | x :: a, [], _, _, h => by have := (h x).1 (List.mem_cons_self ..); simp at this
  | x :: a, y :: b, ha, hb, h => by
    have ha1 := (List.pairwise_cons.1 ha).1
    have hb1 := (List.pairwise_cons.1 hb).1
    have hxy : x = y := by
      rcases List.mem_cons.1 ((h x).1 (List.mem_cons_self ..)) with e | h1
      · exact e
      · rcases List.mem_cons.1 ((h y).2 (List.mem_cons_self ..)) with e | h2
        · exact e.symm
        · have := hb1 x h1; have := ha1 y h2; omega
    subst hxy
    rw [sorted_ext a b (List.pairwise_cons.1 ha).2 (List.pairwise_cons.1 hb).2]
    intro v
    constructor
    · intro hv
      rcases List.mem_cons.1 ((h v).1 (List.mem_cons_of_mem _ hv)) with e | h'
      · have := ha1 v hv; omega
      · exact h'
    · intro hv
      rcases List.mem_cons.1 ((h v).2 (List.mem_cons_of_mem _ hv)) with e | h'
      · have := hb1 v hv; omega
      · exact h'
theorem compactUpTo_sorted {α : Type} [Inhabited α] [DecidableEq α] (lt le : α → α → Prop) (hlt : ∀ a b, le a b → a ≠ b → lt a b) (htr : ∀ a b c, le a b → lt b c → lt a c) (d : Array α) (hd : ∀ i j, i ≤ j → j < d.size → le d[i]! d[j]!) : ∀ m, m ≤ d.size → (Lib.compactUpTo d m).Pairwise lt ∧ ∀ x, x ∈ Lib.compactUpTo d m ↔ ∃ j, j < m ∧ x = d[j]!
  | 0, _ => by simp [Lib.compactUpTo]
  | m + 1, hm => by
    obtain ⟨h1, h2⟩ := compactUpTo_sorted lt le hlt htr d hd m (by omega)
    rw [Lib.compactUpTo_succ]
    by_cases hk : m = 0 ∨ d[m]! ≠ d[m - 1]!
    · have hkk : Lib.keeps d m = true := by simp only [Lib.keeps]; exact decide_eq_true hk
      rw [if_pos hkk]
      constructor
      · rw [List.pairwise_append]
        refine ⟨h1, by simp, ?_⟩
        intro x hx y hy
        obtain ⟨j, hj, rfl⟩ := (h2 x).1 hx
        have : y = d[m]! := by simpa using hy
        subst this
        have hne : d[m]! ≠ d[m - 1]! := hk.resolve_left (by omega)
        exact htr _ _ _ (hd j (m - 1) (by omega) (by omega)) (hlt _ _ (hd (m - 1) m (by omega) (by omega)) (fun e => hne e.symm))
      · intro x
        rw [List.mem_append, h2]
        constructor
        · rintro (⟨j, hj, rfl⟩ | hx)
          · exact ⟨j, by omega, rfl⟩
          · exact ⟨m, by omega, by simpa using hx⟩
        · rintro ⟨j, hj, rfl⟩
          by_cases e : j = m
          · right; subst e; simp
          · left; exact ⟨j, by omega, rfl⟩
    · have hkk : Lib.keeps d m = false := by simp only [Lib.keeps]; exact decide_eq_false hk
      rw [if_neg (by rw [hkk]; decide), List.append_nil]
      refine ⟨h1, fun x => ?_⟩
      rw [h2]
      have h0 : m ≠ 0 := fun e => hk (.inl e)
      have he : d[m]! = d[m - 1]! := Classical.byContradiction fun e => hk (.inr e)
      constructor
      · rintro ⟨j, hj, rfl⟩; exact ⟨j, by omega, rfl⟩
      · rintro ⟨j, hj, rfl⟩
        by_cases e : j = m
        · subst e; exact ⟨j - 1, by omega, he⟩
        · exact ⟨j, by omega, rfl⟩
theorem compact_sorted {α : Type} [Inhabited α] [DecidableEq α] (lt le : α → α → Prop) (hlt : ∀ a b, le a b → a ≠ b → lt a b) (htr : ∀ a b c, le a b → lt b c → lt a c) (hrf : ∀ a, le a a) (l : List α) (hl : l.Pairwise le) : (Lib.compact l).Pairwise lt ∧ ∀ x, x ∈ Lib.compact l ↔ x ∈ l := by
  have hd : ∀ i j, i ≤ j → j < l.toArray.size → le l.toArray[i]! l.toArray[j]! := by
    intro i j hij hj
    have hj' : j < l.length := by simpa using hj
    have e1 : l.toArray[i]! = l[i]'(by omega) := by rw [getElem!_pos l.toArray i (by simp; omega)]; rfl
    have e2 : l.toArray[j]! = l[j]'hj' := by rw [getElem!_pos l.toArray j hj]; rfl
    rw [e1, e2]
    by_cases e : i = j
    · subst e; exact hrf _
    · exact List.pairwise_iff_getElem.1 hl i j (by omega) hj' (by omega)
  obtain ⟨h1, h2⟩ := compactUpTo_sorted lt le hlt htr l.toArray hd l.length (by simp)
  refine ⟨h1, fun x => ?_⟩
  unfold Lib.compact
  rw [h2, List.mem_iff_getElem]
  constructor
  · rintro ⟨j, hj, rfl⟩; exact ⟨j, hj, by rw [getElem!_pos l.toArray j (by simpa using hj)]; rfl⟩
  · rintro ⟨j, hj, rfl⟩; exact ⟨j, hj, by rw [getElem!_pos l.toArray j (by simpa using hj)]; rfl⟩
theorem sortZ_mem (l : List Int) (x : Int) : x ∈ sortZ l ↔ x ∈ l := (List.mergeSort_perm l _).mem_iff
theorem sortZ_sorted (l : List Int) : (sortZ l).Pairwise (· ≤ ·) := by
  have := List.pairwise_mergeSort (le := fun x y : Int => decide (x ≤ y)) (fun a b c h1 h2 => by simp at h1 h2 ⊢; omega) (fun a b => by simp; omega) l
  exact this.imp fun h => by simpa using h
theorem compact_sortZ (l : List Int) : (Lib.compact (sortZ l)).Pairwise (· < ·) ∧ ∀ x, x ∈ Lib.compact (sortZ l) ↔ x ∈ l := by
  obtain ⟨h1, h2⟩ := compact_sorted (α := Int) (· < ·) (· ≤ ·) (fun a b h e => by omega) (fun a b c h1 h2 => by omega) (fun a => by omega) (sortZ l) (sortZ_sorted l)
  exact ⟨h1, fun x => (h2 x).trans (sortZ_mem l x)⟩

/-! ### numbers of bits -/
theorem popF_zero : ∀ n, popF n 0 = 0
  | 0 => rfl
  | n + 1 => by rw [popF]; simp [popF_zero n]
theorem popF_cut (z m : Nat) (hz : z ≤ 64) (h : m < 2 ^ z) : popF 64 m = popF z m := by
  have := popF_split z (64 - z) m 0 h
  rw [Nat.mul_zero, Nat.add_zero, popF_zero, Nat.add_zero, show z + (64 - z) = 64 by omega] at this
  exact this
theorem bitsL_count (z m : Nat) : (bitsL m z).length = popF z m := by rw [popF_filter, bitsL, List.length_map]
theorem bitsL_pop (z m : Nat) (hz : z ≤ 64) (h : m < 2 ^ z) : (bitsL m z).length = popF 64 m := by rw [popF_cut z m hz h, bitsL_count]

/-! ### Needed -/
theorem needM_bit (ms : List Nat) (i : Nat) : (needM ms).testBit i = ms.any fun m => decide (popF 64 m = 1) && m.testBit i := by
  have : ∀ (l : List Nat) (a : Nat), (l.foldl (fun a m => if popF 64 m = 1 then a ||| m else a) a).testBit i = (a.testBit i || l.any fun m => decide (popF 64 m = 1) && m.testBit i) := by
    intro l
    induction l with
    | nil => simp
    | cons m l ih =>
      intro a
      rw [List.foldl_cons, ih, List.any_cons]
      by_cases h : popF 64 m = 1
      · simp [h, Bool.or_assoc]
      · simp [h]
  have := this ms 0
  simpa [needM] using this
theorem needed_eq (ms : List Nat) (z : Nat) (hz : z ≤ 64) (h : ∀ m ∈ ms, m < 2 ^ z) : bitsL (needM ms) z = Lib.compact (sortZ (ms.flatMap fun m => oneL (bitsL m z))) := by
  obtain ⟨h1, h2⟩ := compact_sortZ (ms.flatMap fun m => oneL (bitsL m z))
  refine sorted_ext _ _ (bitsL_sorted _ _) h1 fun x => ?_
  rw [h2, mem_bitsL, List.mem_flatMap]
  constructor
  · rintro ⟨i, hi, hb, rfl⟩
    rw [needM_bit, List.any_eq_true] at hb
    obtain ⟨m, hm, hb⟩ := hb
    simp only [Bool.and_eq_true, decide_eq_true_eq] at hb
    refine ⟨m, hm, ?_⟩
    rw [oneL, if_pos (by rw [bitsL_pop z m hz (h m hm)]; exact hb.1), mem_bitsL]
    exact ⟨i, hi, hb.2, rfl⟩
  · rintro ⟨m, hm, hx⟩
    unfold oneL at hx
    split at hx
    · rename_i h3
      obtain ⟨i, hi, hb, rfl⟩ := (mem_bitsL m z x).1 hx
      refine ⟨i, hi, ?_, rfl⟩
      rw [needM_bit, List.any_eq_true]
      refine ⟨m, hm, ?_⟩
      rw [bitsL_pop z m hz (h m hm)] at h3
      simp [h3, hb]
    · cases hx

/-! ### enough, covers -/
theorem bit_lt {m z i : Nat} (h : m < 2 ^ z) (hb : m.testBit i = true) : i < z := by
  rcases Nat.lt_or_ge i z with h1 | h1
  · exact h1
  · rw [Nat.testBit_lt_two_pow (Nat.lt_of_lt_of_le h (Nat.pow_le_pow_right (by decide) h1))] at hb; cases hb
theorem ne0_bit {m : Nat} (h : m ≠ 0) : ∃ i, m.testBit i = true := Classical.byContradiction fun hn => h (Nat.eq_of_testBit_eq fun i => by
  rw [Nat.zero_testBit]
  cases hb : m.testBit i
  · rfl
  · exact absurd ⟨i, hb⟩ hn)
theorem miss_eq (k m z : Nat) (h : m < 2 ^ z) : missL (bitsL k z) (bitsL m z) = missB k m := by
  rw [Bool.eq_iff_iff]
  unfold missL missB
  simp only [Bool.and_eq_true, Bool.not_eq_true', bne_iff_ne, beq_iff_eq, ne_eq]
  refine and_congr ?_ ?_
  · constructor
    · rintro h1 rfl
      cases hb : bitsL 0 z with
      | nil => rw [hb] at h1; cases h1
      | cons x l =>
        have : x ∈ bitsL 0 z := by rw [hb]; exact List.mem_cons_self ..
        obtain ⟨i, _, h3, _⟩ := (mem_bitsL 0 z x).1 this
        simp at h3
    · intro h1
      obtain ⟨i, hi⟩ := ne0_bit h1
      have : (i : Int) ∈ bitsL m z := (mem_bitsL m z _).2 ⟨i, bit_lt h hi, hi, rfl⟩
      cases hb : bitsL m z with
      | nil => rw [hb] at this; cases this
      | cons x l => rfl
  · unfold anyF
    rw [List.any_eq_false]
    constructor
    · intro h1
      refine Classical.byContradiction fun h2 => ?_
      obtain ⟨i, hi⟩ := ne0_bit h2
      rw [Nat.testBit_and, Bool.and_eq_true] at hi
      refine h1 (i : Int) ((mem_bitsL m z _).2 ⟨i, bit_lt h hi.1, hi.1, rfl⟩) ?_
      unfold conB
      rw [List.contains_iff_mem]
      exact (mem_bitsL k z _).2 ⟨i, bit_lt h hi.1, hi.2, rfl⟩
    · intro h1 x hx h2
      unfold conB at h2
      rw [List.contains_iff_mem] at h2
      obtain ⟨i, hi, hb, rfl⟩ := (mem_bitsL m z x).1 hx
      obtain ⟨j, hj, hb2, e⟩ := (mem_bitsL k z _).1 h2
      have e : i = j := by omega
      subst e
      have : (m &&& k).testBit i = true := by rw [Nat.testBit_and, hb, hb2]; rfl
      rw [h1] at this
      simp at this
theorem cov_eq (ms : List Nat) (k z : Nat) (h : ∀ m ∈ ms, m < 2 ^ z) : covB (ms.map fun m => bitsL m z) (bitsL k z) = enoughB ms k := by
  unfold covB enoughB anyF
  rw [List.any_map, List.all_eq_not_any_not]
  congr 1
  have : ∀ (l : List Nat), (∀ m ∈ l, m < 2 ^ z) → l.any (missL (bitsL k z) ∘ fun m => bitsL m z) = l.any fun m => !!missB k m := by
    intro l
    induction l with
    | nil => simp
    | cons m l ih =>
      intro h
      rw [List.any_cons, List.any_cons, ih fun x hx => h x (List.mem_cons_of_mem _ hx)]
      congr 1
      rw [Bool.not_not]
      exact miss_eq k m z (h m (List.mem_cons_self ..))
  exact this ms h

/-! ### Reduced -/
theorem clear_bit (k i j : Nat) (hi : i < 64) (hj : j < 64) : (k &&& (18446744073709551615 - 2 ^ i)).testBit j = (k.testBit j && decide (j ≠ i)) := by
  have e : 18446744073709551615 - 2 ^ i = 2 ^ 64 - (2 ^ i + 1) := by
    have : (2 : Nat) ^ 64 = 18446744073709551616 := by decide
    omega
  rw [Nat.testBit_and, e, Nat.testBit_two_pow_sub_succ (Nat.pow_lt_pow_right (by decide) hi), Nat.testBit_two_pow]
  congr 1
  rw [show decide (j < 64) = true from decide_eq_true hj, Bool.true_and]
  by_cases h : i = j
  · subst h; simp
  · have : j ≠ i := fun e => h e.symm
    simp [h, this]
theorem drop_eq (k z i : Nat) (hz : z ≤ 64) (hi : i < z) : dropV (bitsL k z) i = bitsL (k &&& (18446744073709551615 - 2 ^ i)) z := by
  refine sorted_ext _ _ ((bitsL_sorted k z).filter _) (bitsL_sorted _ _) fun x => ?_
  unfold dropV
  rw [List.mem_filter, mem_bitsL, mem_bitsL]
  constructor
  · rintro ⟨⟨j, hj, hb, rfl⟩, h2⟩
    refine ⟨j, hj, ?_, rfl⟩
    rw [clear_bit k i j (by omega) (by omega), hb]
    have : (j : Int) ≠ (i : Int) := by simpa using h2
    have : j ≠ i := by omega
    simp [this]
  · rintro ⟨j, hj, hb, rfl⟩
    rw [clear_bit k i j (by omega) (by omega), Bool.and_eq_true] at hb
    refine ⟨⟨j, hj, hb.1, rfl⟩, ?_⟩
    have h2 : j ≠ i := by simpa using hb.2
    have h3 : (j : Int) ≠ (i : Int) := by omega
    simpa using h3
theorem red_eq (ms : List Nat) (z : Nat) (hz : z ≤ 64) (h : ∀ m ∈ ms, m < 2 ^ z) : ∀ (i k : Nat), i ≤ z → redD (ms.map fun m => bitsL m z) i (bitsL k z) = bitsL (redM ms i k) z
  | 0, k, _ => rfl
  | i + 1, k, hi => by
    rw [redD, redM, drop_eq k z i hz (by omega), cov_eq ms _ z h]
    split
    · exact red_eq ms z hz h i _ (by omega)
    · exact red_eq ms z hz h i _ (by omega)
theorem ones_bit (z j : Nat) : (onesN (z : Int)).testBit j = decide (j < z) := by
  unfold onesN
  rw [Int.toNat_natCast, Nat.testBit_two_pow_sub_one]
theorem iota_eq (z : Nat) : iota z = bitsL (onesN (z : Int)) z := by
  unfold iota bitsL
  rw [List.filter_eq_self.2 fun j hj => by rw [ones_bit]; exact decide_eq_true (List.mem_range.1 hj)]
theorem reduced_eq (ms : List Nat) (z : Nat) (hz : z ≤ 64) (h : ∀ m ∈ ms, m < 2 ^ z) : redL (ms.map fun m => bitsL m z) z = bitsL (redN ms z) z := by
  unfold redL redN
  rw [iota_eq]
  exact red_eq ms z hz h z _ (Nat.le_refl _)
theorem pick_eq (kept : Nat) (s : ByteArray) : pickB kept s = pickS (bitsL kept s.size) s := by
  unfold pickB pickS pickL pickTo bitsL
  rw [List.take_length, List.map_map]
  rfl
end Go.Proofs.YtedpnjbbcfiheaaGreatDoor

/- Walk of Reduced. -/
import Derived.Test.YtedpnjbbcfiheaaGreatDoorW12
import Derived.Laws.BytesArg
import Derived.Lib.LazyBuf
set_option linter.unusedVariables false
namespace Go.Proofs.YtedpnjbbcfiheaaGreatDoor
open Go.RowKit Go.Sc
def u8s (l : List UInt8) : List Value := l.map fun b => .int .u8 (b.toNat : Int)
theorem u8s_map (l : List UInt8) : u8s l = (l.map fun b => (b.toNat : Int)).map (.int .u8) := by simp [u8s]
theorem own_str {P : Program} {w : World} {base n : Nat} {e' src dst e : TypeId} {v : Value} {l : List UInt8} (hs : P.underlying src = some (.slice e)) (he : P.underlying e = some (.int .u8)) (hd : P.underlying dst = some .string)
    (h : w.ownsRow base e' 1 v n (u8s l)) : (convert src dst v).run P w = .ok (.string ⟨l.toArray⟩) w := by
  have hl : l.length = n := by have := h.1; simp [u8s] at this; exact this
  rcases h.2 with ⟨rfl, rfl⟩ | ⟨g, cap, cur, rfl, _⟩
  · obtain rfl : l = [] := List.eq_nil_of_length_eq_zero hl
    exact run_convert_bytes_nil w src e hs he 0 0 dst hd
  · rw [← Lib.Lz.strOfNums_map l]
    refine run_convert_bytes_arg w src e hs he g 0 n cap (l.map fun b => (b.toNat : Int)) (by simpa using hl) (fun i hi => ?_) dst hd
    have hc := h.cells (g := g) rfl i (.int .u8 ((l.map fun b => (b.toNat : Int)).getD i 0)) (by
      rw [u8s_map, getD_map_int _ _ _ (by simpa using (by omega : i < l.length)), List.getD_eq_getElem?_getD])
    rwa [add_plain] at hc
theorem info_u8 : (Tryz.prog.info? 5).map (fun i => (i.zero, i.size, i.bytes)) = some (some (.int .u8 0), 1, 1) := by kernel_rfl
theorem info_str : (Tryz.prog.info? 9).map (fun i => (i.zero, i.size, i.bytes)) = some (some (.string ⟨#[]⟩), 1, 16) := by kernel_rfl
def pickTo (kept : Nat) (l : List UInt8) (k : Nat) : List UInt8 := ((List.range k).filter fun i => kept.testBit i).map fun i => l[i]?.getD 0
def pickB (kept : Nat) (s : ByteArray) : ByteArray := ⟨(pickTo kept s.data.toList s.size).toArray⟩
theorem pickTo_succ (kept : Nat) (l : List UInt8) (k : Nat) : pickTo kept l (k + 1) = pickTo kept l k ++ (if kept.testBit k then [l[k]?.getD 0] else []) := by
  unfold pickTo
  rw [List.range_succ, List.filter_append, List.map_append]
  cases h : kept.testBit k <;> simp [h]
theorem pickTo_len (kept : Nat) (l : List UInt8) (k : Nat) : (pickTo kept l k).length ≤ k := by
  unfold pickTo
  rw [List.length_map]
  exact Nat.le_trans (List.length_filter_le _ _) (by simp)
def redM (ms : List Nat) : Nat → Nat → Nat
  | 0, k => k
  | i + 1, k => redM ms i (if enoughB ms (k &&& (18446744073709551615 - 2 ^ i)) = true then k &&& (18446744073709551615 - 2 ^ i) else k)
theorem redM_lt (ms : List Nat) (i k : Nat) (h : k < 18446744073709551616) : redM ms i k < 18446744073709551616 := by
  induction i generalizing k with
  | zero => exact h
  | succ i ih =>
    unfold redM
    apply ih
    split
    · exact Nat.lt_of_le_of_lt Nat.and_le_left h
    · exact h
def redN (ms : List Nat) (long : Nat) : Nat := redM ms long (onesN long)
theorem shl_one (i : Nat) (h : i < 64) : IntKind.u64.wrap (2 ^ i) = ((2 ^ i : Nat) : Int) := by
  have := pow_le64 i h
  have e : (2 : Int) ^ i = ((2 ^ i : Nat) : Int) := by simp
  have hlt : 2 ^ i < 18446744073709551616 := by omega
  generalize 2 ^ i = m at *
  rw [e]
  exact wrap_u64 _ (by omega) (by omega)
set_option maxRecDepth 100000 in
set_option maxHeartbeats 1000000 in
theorem Reduced_ok (v : Value) (n : Nat) (ss : List ByteArray) (fv : Value) (fs : List (Int × List Int)) (w : World) (hr : Rd w 1 v n (ss.map .string)) (hsz : szOk ss) (hf : RdF w fv fs) (h0 : lfault ss fs = 0) :
    Calls Tryz.prog 11 #[v, fv] w fun e w' => ∃ v', e = .returned (.tuple #[v', .int .i64 0]) ∧ w'.ownsRow w.heap.size 9 1 v' n ((ss.map (pickB (redN (maskN ss fs) (ss.headD ByteArray.empty).size))).map .string) ∧ Below w.heap.size w w' := by
  obtain ⟨t0, fl, fo⟩ := lfault_ok h0
  obtain ⟨l1, l2, hok, _⟩ := tfault_ok t0
  have hl : ss.length = n := by have := hr.len; simpa using this
  have hfo : ∀ f ∈ fs, FOk n f.1 f.2 := fun f hf => by rw [← hl]; exact FOk_of (fo f hf)
  have HR := Lib.hid hr
  have HF := Lib.hid hf
  obtain ⟨A, c, rfl, h1, h2, h3, h4⟩ := hr
  obtain ⟨b, off, rfl, hc⟩ := h4 (by omega)
  have hc0 := head_cell (by omega) hc
  have hs64 := head_ok (by omega) hok
  have hml := Lib.hid (maskN_lt ss fs hok (by omega))
  have HLM : Hid ((maskN ss fs).length = fs.length) := by show _ = _; rw [maskN, List.length_map]
  have H0 := Lib.hid h0
  have HC := Lib.hid hc
  have HL := Lib.hid hl
  have HOK := Lib.hid hok
  have hn00 : 0 < n := by omega
  have hn1 : 1 ≤ n := hn00
  have hn2 : n ≤ 100 := by omega
  generalize hs0 : ss.headD ByteArray.empty = s0 at *
  have HS0 := Lib.hid hs0
  clear hs0
  clear h0 t0 fo hc h4 h3 hf hl
  go_enter Tryz.func11, Tryz.ntmps11
  go_wp2_with fail
  refine (manyFault_any _ _ ss _ fs w HR.out hsz HF.out).mono ?_
  rintro e w1 ⟨rfl, hb1⟩
  rw [H0.out]
  go_wp2_with fail
  refine (masks_any _ _ n ss fs w1 (HR.out.below hb1) (HF.out.below hb1) hn1 hn2 hok hfo fl).mono ?_
  rintro e w2 ⟨v2, rfl, hown, hb2⟩
  have hrd2 := Lib.hid (Rd.of_own hown)
  generalize hms : maskN ss fs = ms at *
  have HMS := Lib.hid hms
  clear hms
  have hb12 : Below w.heap.size w w2 := hb1.trans (hb2.mono hb1.size)
  have hc0' := cell_below hb12 _ _ hc0
  clear hown
  have hol := ones_lt (s0.size : Int) (by omega)
  go_wp2_with fail
  refine (whole_any _ (by omega) (by omega) _).mono ?_
  rintro e w' ⟨rfl, rfl⟩
  have HRN : Hid (redN ms s0.size = redM ms s0.size (onesN s0.size)) := rfl
  generalize onesN s0.size = q0 at *
  go_wp2_with fail
  go_loopw [8, 9] (fun x i wr => ∃ j q : Nat, j ≤ s0.size ∧ i = .int .i64 ((j : Int) - 1) ∧ x = .int .u64 (q : Int) ∧ q < 18446744073709551616 ∧ Hid (redN ms s0.size = redM ms j q) ∧ Below w2.heap.size w2 wr) (fun _ i _ => (intOf i + 1).toNat)
  case atStart => exact ⟨s0.size, q0, by omega, rfl, rfl, hol, HRN, Below.refl _ _⟩
  case round =>
    obtain ⟨j, q, hj, rfl, rfl, hq, HQ, hbel⟩ := hrel
    by_cases hlt : 0 < j
    · obtain ⟨j, rfl⟩ : ∃ j', j = j' + 1 := ⟨j - 1, by omega⟩
      have HSH := Lib.hid (shl_one j (by omega))
      have hp := pow_le64 j (by omega)
      have HAN := Lib.hid (u64_andNot_nat q (2 ^ j) hq (by omega))
      have hq2 : q &&& (18446744073709551615 - 2 ^ j) < 18446744073709551616 := Nat.lt_of_le_of_lt Nat.and_le_left hq
      have HQ2 : Hid (redN ms s0.size = redM ms j (if enoughB ms (q &&& (18446744073709551615 - 2 ^ j)) = true then q &&& (18446744073709551615 - 2 ^ j) else q)) := HQ
      have HJ : Hid (((j + 1 : Nat) : Int) - 1 = (j : Int)) := by show _ = _; omega
      rw [HJ.out]
      generalize hg : q &&& (18446744073709551615 - 2 ^ j) = r at *
      have HG := Lib.hid hg
      clear hg hp
      go_wp2_with fail
      rw [HSH.out, HAN.out]
      refine (enough_any v2 fs.length ms r wr (hrd2.out.below hbel) (by omega) hml.out hq2).mono ?_
      rintro e w3 ⟨rfl, hb3⟩
      have hbel3 : Below w2.heap.size w2 w3 := hbel.trans (hb3.mono hbel.size)
      cases he : enoughB ms r
      · have HQ3 : Hid (redN ms s0.size = redM ms j q) := by show _ = _; rw [HQ2.out, if_neg (by rw [he]; decide)]
        go_wp2_with fail
        go_roundw
        case rel => exact ⟨j, q, by omega, rfl, rfl, hq, HQ3, hbel3⟩
        case measure => simp [intOf]
      · have HQ3 : Hid (redN ms s0.size = redM ms j r) := by show _ = _; rw [HQ2.out, if_pos he]
        go_wp2_with fail
        go_roundw
        case rel => exact ⟨j, r, by omega, rfl, rfl, hq2, HQ3, hbel3⟩
        case measure => simp [intOf]
    · obtain rfl : j = 0 := by omega
      have HQ2 : Hid (redN ms s0.size = q) := HQ
      have hb3 : Below w.heap.size w wr := hb12.trans (hbel.mono hb12.size)
      have HJ : Hid (((0 : Nat) : Int) - 1 = -1) := by show _ = _; omega
      rw [HJ.out]
      clear hbel hc0'
      obtain ⟨w4, hw4⟩ : ∃ w4, w4 = wr := ⟨_, rfl⟩
      rw [← hw4] at hb3 ⊢
      clear hw4
      go_wp2_with fail
      go_loopw [11, 49] (fun v i wr => ∃ k : Nat, k ≤ n ∧ i = .int .i64 k ∧ wr.ownsRow w.heap.size 9 1 v k (((ss.take k).map (pickB q)).map .string) ∧ Below w.heap.size w wr) (fun _ i _ => n - (intOf i).toNat)
      case atStart => exact ⟨0, by omega, rfl, by simpa using World.ownsRow_nil _ _ _ _, hb3⟩
      case round =>
        obtain ⟨k, hk, rfl, hown, hbel⟩ := hrel
        by_cases hlt : k < n
        · obtain ⟨s, hsk⟩ : ∃ s, ss[k]? = some s := ⟨ss[k]'(by rw [HL.out]; exact hlt), List.getElem?_eq_getElem _⟩
          have hcell : wr.cell? ⟨b, off + k, none⟩ = some (.string s) := cell_below hbel _ _ (HC.out k (.string s) (by simp [hsk]))
          have hsz64 : s.size ≤ 64 := (HOK.out s (List.mem_of_getElem? hsk)).1
          have hsize := hbel.size
          have HT : Hid (((ss.take (k + 1)).map (pickB q)).map Value.string = ((ss.take k).map (pickB q)).map Value.string ++ [.string (pickB q s)]) := by
            have e : ss[k]'(by rw [HL.out]; exact hlt) = s := by rw [List.getElem?_eq_getElem (by rw [HL.out]; exact hlt)] at hsk; simpa using hsk
            show _ = _
            rw [List.take_succ_eq_append_getElem (by rw [HL.out]; exact hlt), List.map_append, List.map_append, e]; rfl
          clear hsk
          obtain ⟨w5, hw5⟩ : ∃ w5, w5 = wr := ⟨_, rfl⟩
          rw [← hw5] at hown hbel hcell hsize ⊢
          clear hw5
          go_wp2_with fail
          go_loopw [14, 55] (fun v i wr => ∃ k2 : Nat, k2 ≤ s.size ∧ i = .int .i64 k2 ∧ wr.ownsRow w5.heap.size 5 1 v (pickTo q s.data.toList k2).length (u8s (pickTo q s.data.toList k2)) ∧ Below w5.heap.size w5 wr) (fun _ i _ => s.size - (intOf i).toNat)
          case atStart => exact ⟨0, by omega, rfl, World.ownsRow_nil _ _ _ _, Below.refl _ _⟩
          case round =>
            obtain ⟨k2, hk2, rfl, hownb, hbel2⟩ := hrel
            by_cases hlt2 : k2 < s.size
            · have HB := Lib.hid (shr_and q k2 hq)
              have hlen := pickTo_len q s.data.toList k2
              have hsz2 := hbel2.size
              cases ht : q.testBit k2
              · have HB2 : Hid (pickTo q s.data.toList (k2 + 1) = pickTo q s.data.toList k2) := by show _ = _; rw [pickTo_succ, ht]; simp
                have hbb : (bits .and .u64 ((q : Int) / 2 ^ k2) 1 == 1) = false := by rw [HB.out, ht]; rfl
                go_wp2_with fail
                go_roundw
                case rel => exact ⟨k2 + 1, by omega, by go_num, by rw [HB2.out]; exact hownb, hbel2⟩
                case measure => simp [intOf]; omega
              · have HB2 : Hid (pickTo q s.data.toList (k2 + 1) = pickTo q s.data.toList k2 ++ [s[k2]'hlt2]) := by
                  show _ = _; rw [pickTo_succ, ht, List.getElem?_eq_getElem (by simpa using hlt2)]; rfl
                have hbb : (bits .and .u64 ((q : Int) / 2 ^ k2) 1 == 1) = true := by rw [HB.out, ht]; rfl
                go_wp2_with (at_builtin; refine app w5.heap.size rfl _ _ 79 5 (.int .u8 0) 1 1 rfl Tryz.underlying79 info_u8 rfl (by decide) (by decide) _ _ _ hownb _ 1 rfl rfl rfl (by simp [Value.oneCell']) hsz2 (by omega) ?_; intro v1 w1 hown1 hg1 hat)
                go_roundw
                case rel => exact ⟨k2 + 1, by omega, by go_num, by rw [HB2.out]; simpa [u8s] using hown1, hbel2.grown hg1 hsz2 (fun j hj => (own_lt hownb hj).1)⟩
                case measure => simp [intOf]; omega
            · obtain rfl : k2 = s.size := by omega
              have hown2 := own_below hown hbel2
              have hcv := own_str (P := Tryz.prog) (src := 79) (dst := 9) Tryz.underlying79 Tryz.underlying5 Tryz.underlying9 hownb
              have hsz2 := hbel2.size
              have hsz3 : w.heap.size ≤ wr.heap.size := Nat.le_trans hsize hsz2
              have HPB : Hid ((⟨(pickTo q s.data.toList s.size).toArray⟩ : ByteArray) = pickB q s) := rfl
              rw [HPB.out] at hcv
              clear hownb hown
              go_wp2_with (at_builtin; refine app w.heap.size rfl _ _ 26 9 (.string ⟨#[]⟩) 1 16 rfl Tryz.underlying26 info_str rfl (by decide) (by decide) _ _ _ hown2 _ 1 rfl rfl rfl (by simp [Value.oneCell']) hsz3 (by omega) ?_; intro v1 w1 hown1 hg1 hat)
              go_roundw
              case rel => exact ⟨k + 1, by omega, by go_num, by rw [HT.out]; simpa using hown1, (hbel.trans (hbel2.mono hsize)).grown hg1 hsz3 (fun j hj => (own_lt hown2 hj).1)⟩
              case measure => simp [intOf]; omega
        · obtain rfl : k = n := by omega
          have HTK : Hid (ss.take k = ss) := List.take_of_length_le (by rw [HL.out]; exact Nat.le_refl _)
          go_wp2_with fail
          go_ret2
          exact ⟨_, rfl, by rw [HMS.out, HQ2.out]; rw [HTK.out] at hown; exact hown, hbel⟩
theorem Reduced_bad (v : Value) (n : Nat) (ss : List ByteArray) (fv : Value) (fs : List (Int × List Int)) (w : World) (hr : Rd w 1 v n (ss.map .string)) (hsz : szOk ss) (hf : RdF w fv fs) (h0 : lfault ss fs ≠ 0) :
    Calls Tryz.prog 11 #[v, fv] w fun e w' => e = .returned (.tuple #[.slice none 0 0, .int .i64 (lfault ss fs)]) ∧ Below w.heap.size w w' := by
  have HR := Lib.hid hr
  have HF := Lib.hid hf
  have e0 : (lfault ss fs == 0) = false := beq_eq_false_iff_ne.2 h0
  clear hr hf h0
  go_enter Tryz.func11, Tryz.ntmps11
  go_wp2_with fail
  refine (manyFault_any _ _ ss _ fs w HR.out hsz HF.out).mono ?_
  rintro e w1 ⟨rfl, hb1⟩
  go_wp2_with fail
  go_ret2
  exact ⟨rfl, hb1⟩
end Go.Proofs.YtedpnjbbcfiheaaGreatDoor

import Derived.Test.YtedpnjbbcfiheaaGreatDoorFLB09
import Derived.Test.YtedpnjbbcfiheaaGreatDoorFLB05
import Derived.Test.YtedpnjbbcfiheaaGreatDoorFLB01
import Derived.Laws.Concat
set_option linter.unusedSimpArgs false
set_option linter.unusedSectionVars false
set_option linter.unusedVariables false
/- Walks of the generator: Odd, ATest. -/
set_option linter.unusedVariables false
namespace Go.Proofs.YtedpnjbbcfiheaaGreatDoor
open Go.RowKit Go.Sc
def oddN (xs : List Int) (a lo hi : Int) : Int := if nx xs a 12 = 0 then [lo - 1, hi + 1, lo, hi, -1099511627776, 1099511627776].getD (nx xs (a + 1) 6).toNat 0 else lo + nx xs (a + 1) (hi - lo + 1)
set_option maxRecDepth 100000 in
theorem Odd_any (g : Nat) (xs : List Int) (a lo hi : Int) (w : World) (hs : Strm TS w g xs a) (ha : a + 2 < 1000000000) (h0 : -1000000 ≤ lo) (h1 : lo ≤ hi) (h2 : hi ≤ 1000000) :
    Calls Tryz.prog 74 #[.pointer (some ⟨g, 0, none⟩), .int .i64 lo, .int .i64 hi] w fun e w' => e = .returned (.int .i64 (oddN xs a lo hi)) ∧ Strm TS w' g xs (a + 2) ∧ w.grownBy w' (some g) := by
  have hgl := hs.lt
  have haa := hs.lo
  by_cases h : nx xs a 12 = 0
  · have HX : Hid (oddN xs a lo hi = [lo - 1, hi + 1, lo, hi, -1099511627776, 1099511627776].getD (nx xs (a + 1) 6).toNat 0) := if_pos h
    have hb : (nx xs a 12 == 0) = true := beq_iff_eq.2 h
    go_enter Tryz.func74, Tryz.ntmps74
    go_wp2_with fail
    refine (Flip_any g xs a _ _ hs (by omega) (by omega) (by omega)).mono ?_
    rintro e w1 ⟨rfl, hs1, hg1⟩
    rw [hb]
    have hl1 := hs1.lt
    go_wp2_with fail
    refine (Pick_any g xs (a + 1) _ 6 [lo - 1, hi + 1, lo, hi, -1099511627776, 1099511627776] _ (hs1.alloc _) (by omega) (by omega) (by omega) (rd_alloc w1 _ _ 6 rfl (by decide)) (by rintro A m c e; injection e with e _ _; injection e with e; subst e; show w1.heap.size ≠ g; omega)).mono ?_
    rintro e w2 ⟨rfl, hs2, hg2⟩
    have hg := World.grownBy.trans' (gb_alloc hg1 _) hg2
    go_wp2_with fail
    go_ret
    exact ⟨ret_int HX.out.symm, by rw [show a + 2 = a + 1 + 1 by omega]; exact hs2, hg⟩
  · have HX : Hid (oddN xs a lo hi = lo + nx xs (a + 1) (hi - lo + 1)) := if_neg h
    have hb : (nx xs a 12 == 0) = false := beq_eq_false_iff_ne.2 h
    go_enter Tryz.func74, Tryz.ntmps74
    go_wp2_with fail
    refine (Flip_any g xs a _ _ hs (by omega) (by omega) (by omega)).mono ?_
    rintro e w1 ⟨rfl, hs1, hg1⟩
    rw [hb]
    go_wp2_with fail
    refine (Range_any g xs (a + 1) lo hi _ hs1 (by omega) (by omega) (by omega) h1 (by omega)).mono ?_
    rintro e w2 ⟨rfl, hs2, hg2⟩
    have hg := World.grownBy.trans' hg1 hg2
    go_wp2_with fail
    go_ret
    exact ⟨ret_int HX.out.symm, by rw [show a + 2 = a + 1 + 1 by omega]; exact hs2, hg⟩
theorem Repeat_any (s : ByteArray) (c : Nat) (w : World) (hc : c ≤ 9223372036854775807) (hlen : s.size * c ≤ 140737488355328) :
    Calls Tryz.prog 53 #[.string s, .int .i64 c] w fun e w' => e = .returned (.string ⟨(Lib.repeatL s.data.toList c).toArray⟩) ∧ Below w.heap.size w w' := Any.strings_Repeat Tryz.lays105 Tryz.Builder_Extra_105 s c w hc hlen
theorem repeatL_len (l : List UInt8) (c : Nat) : (Lib.repeatL l c).length = c * l.length := Lib.repeatL_length l c
def tLong (xs : List Int) (a : Int) : Nat := ([0, 1, 2, 3, 4, 5].getD (nx xs a 6).toNat 0 : Int).toNat
def tCnt (xs : List Int) (a : Int) : Nat := (1 + nx xs (a + 1) 5).toNat
def tEnd (xs : List Int) (a : Int) : Int := a + 2 + tCnt xs a * tLong xs a
def tRow (xs : List Int) (a : Int) : List ByteArray := testG xs (a + 2) (tLong xs a) (tCnt xs a)
def longS (xs : List Int) (c : Int) : ByteArray :=
  strB (Lib.repeatL ([strB [48], strB [49], strB [48, 49]].getD (nx xs c 3).toNat ByteArray.empty).data.toList (32 + nx xs (c + 1) 2).toNat ++ Lib.repeatL [49] (nx xs (c + 2) 33).toNat)
def longG (xs : List Int) (c : Int) (m : Nat) : List ByteArray := (List.range m).map fun (i : Nat) => longS xs (c + 3 * i)
theorem longG_succ (xs : List Int) (c : Int) (m : Nat) : longG xs c (m + 1) = longG xs c m ++ [longS xs (c + 3 * m)] := by
  simp [longG, List.range_succ]
theorem longG_len (xs : List Int) (c : Int) (m : Nat) : (longG xs c m).length = m := by simp [longG]
theorem some0x (xs : List Int) (a : Int) : ([strB [48], strB [120]].getD (nx xs a 2).toNat ByteArray.empty).size ≤ 1 := by
  have n0 := nx_lo xs a 2
  have n1 := nx_lt xs a 2 (by omega)
  generalize nx xs a 2 = i at *
  obtain ⟨i, rfl⟩ := Int.eq_ofNat_of_zero_le n0
  have : i < 2 := by omega
  match i, this with
  | 0, _ => decide
  | 1, _ => decide
theorem some3 (xs : List Int) (a : Int) : ([strB [48], strB [49], strB [48, 49]].getD (nx xs a 3).toNat ByteArray.empty).size ≤ 2 := by
  have n0 := nx_lo xs a 3
  have n1 := nx_lt xs a 3 (by omega)
  generalize nx xs a 3 = i at *
  obtain ⟨i, rfl⟩ := Int.eq_ofNat_of_zero_le n0
  have : i < 3 := by omega
  match i, this with
  | 0, _ => decide
  | 1, _ => decide
  | 2, _ => decide
def atest (xs : List Int) (a : Int) : List ByteArray × Int :=
  if nx xs (tEnd xs a) 20 = 0 then
    ((tRow xs a).set (nx xs (tEnd xs a + 1) (tCnt xs a)).toNat (((tRow xs a)[(nx xs (tEnd xs a + 1) (tCnt xs a)).toNat]?.getD ByteArray.empty) ++ [strB [48], strB [120]].getD (nx xs (tEnd xs a + 2) 2).toNat ByteArray.empty), tEnd xs a + 3)
  else if nx xs (tEnd xs a + 1) 40 = 0 then ([], tEnd xs a + 2)
  else if nx xs (tEnd xs a + 2) 40 = 0 then (longG xs (tEnd xs a + 3) (tCnt xs a), tEnd xs a + 3 + 3 * tCnt xs a)
  else (tRow xs a, tEnd xs a + 3)
theorem tLong_le (xs : List Int) (a : Int) : tLong xs a ≤ 5 := by
  unfold tLong
  have n0 := nx_lo xs a 6
  have n1 := nx_lt xs a 6 (by omega)
  generalize nx xs a 6 = i at *
  obtain ⟨i, rfl⟩ := Int.eq_ofNat_of_zero_le n0
  have : i < 6 := by omega
  match i, this with
  | 0, _ => decide
  | 1, _ => decide
  | 2, _ => decide
  | 3, _ => decide
  | 4, _ => decide
  | 5, _ => decide
theorem tLong_cast (xs : List Int) (a : Int) : ([0, 1, 2, 3, 4, 5].getD (nx xs a 6).toNat 0 : Int) = (tLong xs a : Int) := by
  unfold tLong
  have n0 := nx_lo xs a 6
  have n1 := nx_lt xs a 6 (by omega)
  generalize nx xs a 6 = i at *
  obtain ⟨i, rfl⟩ := Int.eq_ofNat_of_zero_le n0
  have : i < 6 := by omega
  match i, this with
  | 0, _ => decide
  | 1, _ => decide
  | 2, _ => decide
  | 3, _ => decide
  | 4, _ => decide
  | 5, _ => decide
theorem tCnt_bd (xs : List Int) (a : Int) : 1 ≤ tCnt xs a ∧ tCnt xs a ≤ 5 ∧ 1 + nx xs (a + 1) 5 = (tCnt xs a : Int) := by
  unfold tCnt
  have n0 := nx_lo xs (a + 1) 5
  have n1 := nx_lt xs (a + 1) 5 (by omega)
  omega
theorem some01 (xs : List Int) (a : Int) : [strB [48], strB [49]].getD (nx xs a 2).toNat ByteArray.empty = strB [if nx xs a 2 = 0 then (48 : UInt8) else 49] := by
  have n0 := nx_lo xs a 2
  have n1 := nx_lt xs a 2 (by omega)
  generalize nx xs a 2 = i at *
  obtain ⟨i, rfl⟩ := Int.eq_ofNat_of_zero_le n0
  have : i < 2 := by omega
  match i, this with
  | 0, _ => rfl
  | 1, _ => rfl
set_option maxRecDepth 100000 in
set_option maxHeartbeats 2000000 in
theorem ATest_any (g : Nat) (xs : List Int) (a : Int) (w : World) (hs : Strm TS w g xs a) (ha : a + 100 < 1000000000) :
    Calls Tryz.prog 8 #[.pointer (some ⟨g, 0, none⟩)] w fun e w' => ∃ v, e = .returned v ∧ w'.ownsRow w.heap.size 9 1 v (atest xs a).1.length ((atest xs a).1.map .string) ∧ Strm TS w' g xs (atest xs a).2 ∧ w.grownBy w' (some g) := by
  have hgl := hs.lt
  have haa := hs.lo
  have HTL := Lib.hid (tLong_cast xs a)
  have htl := tLong_le xs a
  obtain ⟨hc1, hc5, hcc⟩ := tCnt_bd xs a
  have HTC := Lib.hid hcc
  have HTR : Hid (tRow xs a = testG xs (a + 2) (tLong xs a) (tCnt xs a)) := rfl
  have HTE : Hid (tEnd xs a = a + 2 + tCnt xs a * tLong xs a) := rfl
  have HAT : Hid (atest xs a = if nx xs (tEnd xs a) 20 = 0 then
    ((tRow xs a).set (nx xs (tEnd xs a + 1) (tCnt xs a)).toNat (((tRow xs a)[(nx xs (tEnd xs a + 1) (tCnt xs a)).toNat]?.getD ByteArray.empty) ++ [strB [48], strB [120]].getD (nx xs (tEnd xs a + 2) 2).toNat ByteArray.empty), tEnd xs a + 3)
    else if nx xs (tEnd xs a + 1) 40 = 0 then ([], tEnd xs a + 2)
    else if nx xs (tEnd xs a + 2) 40 = 0 then (longG xs (tEnd xs a + 3) (tCnt xs a), tEnd xs a + 3 + 3 * tCnt xs a)
    else (tRow xs a, tEnd xs a + 3)) := rfl
  generalize tLong xs a = z at *
  generalize tCnt xs a = cnt at *
  generalize tEnd xs a = b at *
  generalize tRow xs a = tr at *
  clear hcc
  go_enter Tryz.func8, Tryz.ntmps8
  go_wp2_with fail
  refine (Pick_any g xs a _ 6 [0, 1, 2, 3, 4, 5] _ (hs.alloc _) (by omega) (by omega) (by omega) (rd_alloc w _ _ 6 rfl (by decide)) (by rintro A m c e; injection e with e _ _; injection e with e; subst e; show w.heap.size ≠ g; omega)).mono ?_
  rintro e w1 ⟨rfl, hs1, hg1⟩
  rw [show ((6 : Nat) : Int) = 6 from rfl, HTL.out]
  have hgw1 := World.grownBy.trans' (gb_alloc (gb_refl w (some g)) _) hg1
  go_wp2_with fail
  refine (Range_any g xs (a + 1) 1 5 _ hs1 (by omega) (by omega) (by omega) (by omega) (by omega)).mono ?_
  rintro e w2 ⟨rfl, hs2, hg2⟩
  have hgw2 := World.grownBy.trans' hgw1 hg2
  rw [show (5 : Int) - 1 + 1 = 5 from rfl, HTC.out]
  rw [show a + 1 + 1 = a + 2 by omega] at hs2
  go_wp2_with fail
  go_loopw [3, 12] (fun v i wr => ∃ j : Nat, j ≤ cnt ∧ i = .int .i64 j ∧ wr.ownsRow w.heap.size 9 1 v j ((testG xs (a + 2) z j).map .string) ∧ Strm TS wr g xs (a + 2 + j * z) ∧ w.grownBy wr (some g)) (fun _ i _ => cnt - (intOf i).toNat)
  case atStart => exact ⟨0, by omega, rfl, World.ownsRow_nil _ _ _ _, by simpa using hs2, hgw2⟩
  case round =>
    obtain ⟨j, hj, rfl, hown, hst, hgb⟩ := hrel
    have hwsz := hgb.size
    by_cases hlt : j < cnt
    · obtain ⟨w5, hw5⟩ : ∃ w5, w5 = wr := ⟨_, rfl⟩
      rw [← hw5] at hown hst hgb hwsz ⊢
      clear hw5
      have hjz : (j : Int) * z ≤ 25 ∧ 0 ≤ (j : Int) * z := by
        have : j * z ≤ 5 * 5 := Nat.mul_le_mul (by omega) htl
        constructor
        · exact_mod_cast this
        · exact_mod_cast Nat.zero_le _
      have HJ : Hid (a + 2 + (j : Int) * z + z = a + 2 + ((j + 1 : Nat) : Int) * z) := by
        show _ = _
        rw [Int.natCast_add, Int.add_mul]; simp; omega
      have HTG := Lib.hid (testG_succ xs (a + 2) z j)
      have hcb : a + 2 + (j : Int) * z ≤ a + 27 := by omega
      generalize a + 2 + (j : Int) * z = c at *
      go_wp2_with fail
      go_loopw [5, 15] (fun x i wr => ∃ k : Nat, k ≤ z ∧ i = .int .i64 k ∧ x = .string (strB (rowG xs c k)) ∧ Strm TS wr g xs (c + k) ∧ w5.grownBy wr (some g)) (fun _ i _ => z - (intOf i).toNat)
      case atStart => exact ⟨0, by omega, rfl, rfl, by simpa using hst, gb_refl _ _⟩
      case round =>
        obtain ⟨k, hk, rfl, rfl, hst2, hgb2⟩ := hrel
        have hwsz2 := hgb2.size
        have hgl2 := hst2.lt
        by_cases hlt2 : k < z
        · have HS := Lib.hid (some01 xs (c + k))
          have HR := Lib.hid (rowG_succ xs c k)
          have HA := Lib.hid (strB_app (rowG xs c k) [if nx xs (c + k) 2 = 0 then (48 : UInt8) else 49])
          go_wp2_with fail
          refine (Some_any g xs (c + k) _ 2 [strB [48], strB [49]] _ (hst2.alloc _) (by omega) (by omega) (by omega) (rd_alloc wr _ _ 2 rfl (by decide)) (by rintro A m c e; injection e with e _ _; injection e with e; subst e; show wr.heap.size ≠ g; omega)).mono ?_
          rintro e w6 ⟨rfl, hs6, hg6⟩
          rw [show ((2 : Nat) : Int) = 2 from rfl, HS.out]
          have hgb3 := World.grownBy.trans' (gb_alloc hgb2 _) hg6
          have hcat := run_string_add_sum (P := Tryz.prog) (w := w6) (strB (rowG xs c k)) (strB [if nx xs (c + k) 2 = 0 then (48 : UInt8) else 49]) (by rw [strB_size, strB_size, rowG_len]; simp; omega)
          rw [HA.out] at hcat
          go_wp2_with fail
          go_roundw
          case rel => exact ⟨k + 1, by omega, by go_num, by rw [HR.out], by rw [Int.natCast_add, ← Int.add_assoc]; exact hs6, hgb3⟩
          case measure => simp [intOf]; omega
        · obtain rfl : k = z := by omega
          have hown2 := own_strm hown hgb2 hgl
          have hgw3 := World.grownBy.trans' hgb hgb2
          have hsz3 := hgw3.size
          rw [HJ.out] at hst2
          go_wp2_with (at_builtin; refine app w.heap.size rfl _ _ 26 9 (.string ⟨#[]⟩) 1 16 rfl Tryz.underlying26 info_str rfl (by decide) (by decide) _ _ _ hown2 _ 1 rfl rfl rfl (by simp [Value.oneCell']) hsz3 (by omega) ?_; intro v1 w7 hown1 hg7 hat)
          go_roundw
          case rel => exact ⟨j + 1, by omega, by go_num, by rw [HTG.out]; simpa using hown1, hst2.grown hg7 (fun k hk => by have := (own_lt hown2 hk).1; omega), gb_own hgw3 hg7 (fun k hk => (own_lt hown2 hk).1)⟩
          case measure => simp [intOf]; omega
    · obtain rfl : j = cnt := by omega
      rw [← HTR.out] at hown
      rw [← HTE.out] at hst
      have HTL2 : Hid (tr.length = j) := by show _ = _; rw [HTR.out, testG_len]
      have hbb : b ≤ a + 27 ∧ a ≤ b := by
        have h1 : j * z ≤ 5 * 5 := Nat.mul_le_mul hc5 htl
        have h2 : ((j * z : Nat) : Int) = (j : Int) * z := by simp
        have h3 := HTE.out
        generalize (j : Int) * z = q at *
        omega
      obtain ⟨g1, cap, rfl, hgb1, hglt⟩ := hown.form (by omega)
      have hgg : g ≠ g1 := by omega
      by_cases h20 : nx xs b 20 = 0
      · have e20 : (nx xs b 20 == 0) = true := beq_iff_eq.2 h20
        have HAT2 : Hid (atest xs a = (tr.set (nx xs (b + 1) j).toNat ((tr[(nx xs (b + 1) j).toNat]?.getD ByteArray.empty) ++ [strB [48], strB [120]].getD (nx xs (b + 2) 2).toNat ByteArray.empty), b + 3)) := by show _ = _; rw [HAT.out, if_pos h20]
        clear HAT h20
        go_wp2_with fail
        refine (Flip_any g xs b _ _ hst (by omega) (by omega) (by omega)).mono ?_
        rintro e w3 ⟨rfl, hs3, hg3⟩
        rw [e20]
        have hown3 := own_strm hown hg3 hgl
        have hgw3 := World.grownBy.trans' hgb hg3
        have n0 := nx_lo xs (b + 1) j
        have n1 := nx_lt xs (b + 1) j (by omega)
        obtain ⟨i, hi⟩ := Int.eq_ofNat_of_zero_le n0
        rw [hi] at n1 HAT2
        have HI := Lib.hid hi
        clear hi n0
        have HO3 := Lib.hid hown3
        have HS3 := Lib.hid hs3
        have HG3 := Lib.hid hgw3
        clear hown hown3 hs3 hgw3 hst hgb hg3
        obtain ⟨y, hy⟩ : ∃ y, tr[i]? = some y := ⟨tr[i]'(by rw [HTL2.out]; omega), List.getElem?_eq_getElem _⟩
        have HY := Lib.hid hy
        have hyz : y.size ≤ 5 := by
          have h1 := List.mem_of_getElem? hy
          rw [HTR.out] at h1
          obtain ⟨q, _, rfl⟩ := List.mem_map.1 h1
          rw [strB_size, rowG_len]; exact htl
        have HCell : Hid (∀ W : World, W.ownsRow w.heap.size 9 1 (.slice (some ⟨g1, 0, none⟩) j cap) j (tr.map .string) → W.cell? ⟨g1, i, none⟩ = some (.string y)) := fun W h => by
          rw [h.cellAt i (by omega), List.getElem?_map, HY.out]; rfl
        have hsz1 := some0x xs (b + 1 + 1)
        rw [show b + 2 = b + 1 + 1 by omega] at HAT2
        generalize hs1 : [strB [48], strB [120]].getD (nx xs (b + 1 + 1) 2).toNat ByteArray.empty = s1 at *
        have HS1 := Lib.hid hs1
        clear hs1
        have hcat : ∀ W, (Op.stringOp .add y s1).run Tryz.prog W = .ok (.string (y ++ s1)) W := fun W => run_string_add_sum _ _ _ (by omega)
        have HRD : Hid (∀ W : World, Rd (W.alloc (.cells #[.string ⟨#[48]⟩, .string ⟨#[120]⟩] 9)) 1 (.slice (some ⟨W.heap.size, 0, none⟩) 2 2) 2 ([strB [48], strB [120]].map .string)) := fun W => rd_alloc W _ _ 2 rfl (by decide)
        have hl3 := HS3.out.lt
        have HE1 : Hid ((atest xs a).1.map Value.string = (tr.map Value.string).set i (.string (y ++ s1))) := by
          show _ = _
          rw [HAT2.out]
          show ((tr.set i (tr[i]?.getD ByteArray.empty ++ s1)).map Value.string) = _
          rw [HY.out, List.map_set]; rfl
        have HE2 : Hid ((atest xs a).1.length = j) := by
          show _ = _
          rw [HAT2.out]
          show (tr.set i _).length = j
          rw [List.length_set, HTL2.out]
        have HE3 : Hid ((atest xs a).2 = b + 1 + 1 + 1) := by
          show _ = _
          rw [HAT2.out]
          show b + 3 = _
          omega
        have hRG : ∀ {W W' : World} {k : Nat}, Rd W 1 (.slice (some ⟨k, 0, none⟩) 2 2) 2 ([strB [48], strB [120]].map .string) → W.grownBy W' (some g) → g < k → Rd W' 1 (.slice (some ⟨k, 0, none⟩) 2 2) 2 ([strB [48], strB [120]].map .string) := by
          intro W W' k h hg hk
          refine h.grown hg ?_
          rintro A m c b e e2
          injection e with e _ _
          injection e with e
          subst e
          injection e2 with e2
          show k ≠ b
          omega
        clear hy
        go_upto_region 13 with fail
        go_region_law (first
          | (go_simp; go_at_call 52; (refine (Next_any g xs (b + 1) j _ (by with_reducible repeat (first | exact HS3.out | apply Strm.alloc | apply Strm.drewN | apply strm_drew)) (by omega) (by omega) (by omega)).mono ?_; rintro e w4 ⟨rfl, hs4, hg4⟩; rw [HI.out]; have ho4 : w4.ownsRow w.heap.size 9 1 (.slice (some ⟨g1, 0, none⟩) j cap) j (tr.map .string) := own_strm (by with_reducible repeat (first | exact HO3.out | apply World.ownsRow.alloc | apply World.ownsRow.drew)) hg4 hgl; have hgw4 : w.grownBy w4 (some g) := World.grownBy.trans' (by with_reducible repeat (first | exact HG3.out | apply gb_alloc | apply gb_drew)) hg4; have e4 := HCell.out _ ho4; have e4' : ∀ o, (w4.alloc o).cell? ⟨g1, i, none⟩ = some (.string y) := fun o => HCell.out _ (ho4.alloc o); have hl4 := hs4.lt; (first | have hlit : Rd w4 1 (.slice (some ⟨w3.heap.size, 0, none⟩) 2 2) 2 ([strB [48], strB [120]].map .string) := hRG (by first | (with_reducible exact HRD.out _) | exact (HRD.out w3.drew)) hg4 hl3 | skip)))
          | (go_simp; go_at_call 51; (refine (Some_any g xs (b + 1 + 1) _ 2 [strB [48], strB [120]] _ (by with_reducible repeat (first | exact hs4 | apply Strm.alloc | apply Strm.drewN | apply strm_drew)) (by omega) (by omega) (by omega) (by first | (with_reducible exact HRD.out _) | exact hlit) (by rintro A m c e; injection e with e _ _; injection e with e; subst e; first | exact Nat.ne_of_gt hl4 | exact Nat.ne_of_gt hl3)).mono ?_; rintro e w5 ⟨rfl, hs5, hg5⟩; rw [show ((2 : Nat) : Int) = 2 from rfl, HS1.out]; have ho5 : w5.ownsRow w.heap.size 9 1 (.slice (some ⟨g1, 0, none⟩) j cap) j (tr.map .string) := own_strm (by with_reducible repeat (first | exact ho4 | apply World.ownsRow.alloc | apply World.ownsRow.drew)) hg5 hgl; have hgw5 : w.grownBy w5 (some g) := World.grownBy.trans' (by with_reducible repeat (first | exact hgw4 | apply gb_alloc | apply gb_drew)) hg5; have e5 := HCell.out _ ho5; have f5 := ho5.frozenAt i)))
        all_goals go_wp2_with fail
        all_goals go_ret
        all_goals
          have hst := ho5.stored i (.string (y ++ s1))
          exact ⟨_, rfl, by rw [HE1.out, HE2.out]; exact hst.1, by rw [HE3.out]; exact hs5.far (p := ⟨g1, i, none⟩) (by show g < g1; omega) _, gb_own hgw5 hst.2 (fun k hk => by injection hk with hk; omega)⟩
      · have e20 : (nx xs b 20 == 0) = false := beq_eq_false_iff_ne.2 h20
        by_cases h40 : nx xs (b + 1) 40 = 0
        · have e40 : (nx xs (b + 1) 40 == 0) = true := beq_iff_eq.2 h40
          have HAT2 : Hid (atest xs a = ([], b + 2)) := by show _ = _; rw [HAT.out, if_neg h20, if_pos h40]
          clear HAT h20 h40
          go_wp2_with fail
          refine (Flip_any g xs b _ _ hst (by omega) (by omega) (by omega)).mono ?_
          rintro e w3 ⟨rfl, hs3, hg3⟩
          rw [e20]
          have hgw3 := World.grownBy.trans' hgb hg3
          go_wp2_with fail
          refine (Flip_any g xs (b + 1) _ _ hs3 (by omega) (by omega) (by omega)).mono ?_
          rintro e w4 ⟨rfl, hs4, hg4⟩
          rw [e40]
          have hgw4 := World.grownBy.trans' hgw3 hg4
          go_wp2_with fail
          go_ret
          exact ⟨_, rfl, by rw [HAT2.out]; exact World.ownsRow_nil _ _ _ _, by rw [HAT2.out]; simp only; rw [show b + 2 = b + 1 + 1 by omega]; exact hs4, hgw4⟩
        · have e40 : (nx xs (b + 1) 40 == 0) = false := beq_eq_false_iff_ne.2 h40
          by_cases h41 : nx xs (b + 2) 40 = 0
          · have e41 : (nx xs (b + 1 + 1) 40 == 0) = true := beq_iff_eq.2 (by rw [show b + 1 + 1 = b + 2 by omega]; exact h41)
            have HAT2 : Hid (atest xs a = (longG xs (b + 3) j, b + 3 + 3 * j)) := by show _ = _; rw [HAT.out, if_neg h20, if_neg h40, if_pos h41]
            clear HAT h20 h40 h41
            go_wp2_with fail
            refine (Flip_any g xs b _ _ hst (by omega) (by omega) (by omega)).mono ?_
            rintro e w3 ⟨rfl, hs3, hg3⟩
            rw [e20]
            have hgw3 := World.grownBy.trans' hgb hg3
            have hown3 := own_strm hown hg3 hgl
            go_wp2_with fail
            refine (Flip_any g xs (b + 1) _ _ hs3 (by omega) (by omega) (by omega)).mono ?_
            rintro e w4 ⟨rfl, hs4, hg4⟩
            rw [e40]
            have hgw4 := World.grownBy.trans' hgw3 hg4
            have hown4 := own_strm hown3 hg4 hgl
            go_wp2_with fail
            refine (Flip_any g xs (b + 1 + 1) _ _ hs4 (by omega) (by omega) (by omega)).mono ?_
            rintro e w5 ⟨rfl, hs5, hg5⟩
            rw [e41]
            have hgw5 := World.grownBy.trans' hgw4 hg5
            have hown5 := own_strm hown4 hg5 hgl
            rw [show b + 1 + 1 + 1 = b + 3 by omega] at hs5
            go_wp2_with fail
            go_loopw [51] (fun i wr => ∃ k : Nat, k ≤ j ∧ i = .int .i64 k ∧ wr.ownsRow w.heap.size 9 1 (.slice (some ⟨g1, 0, none⟩) j cap) j ((longG xs (b + 3) k ++ tr.drop k).map .string) ∧ Strm TS wr g xs (b + 3 + 3 * k) ∧ w.grownBy wr (some g)) (fun i _ => j - (intOf i).toNat)
            case atStart => exact ⟨0, by omega, rfl, by simpa [longG] using hown5, by simpa using hs5, hgw5⟩
            case round =>
              obtain ⟨k, hk, rfl, hown6, hs6, hgw6⟩ := hrel
              by_cases hltk : k < j
              · have hgl6 := hs6.lt
                have hsz6 := hgw6.size
                obtain ⟨y, hy⟩ : ∃ y, tr[k]? = some y := ⟨tr[k]'(by rw [HTL2.out]; exact hltk), List.getElem?_eq_getElem _⟩
                have HST : Hid (((longG xs (b + 3) k ++ tr.drop k).map Value.string).set k (.string (longS xs (b + 3 + 3 * k))) = (longG xs (b + 3) (k + 1) ++ tr.drop (k + 1)).map Value.string) := by
                  show _ = _
                  rw [longG_succ, drop_at hy, List.map_append, List.map_cons, List.set_append_right _ _ (by simp [longG])]
                  simp [longG]
                go_wp2_with fail
                refine (Some_any g xs _ _ 3 [strB [48], strB [49], strB [48, 49]] _ (hs6.alloc _) (by omega) (by omega) (by omega) (rd_alloc wr _ _ 3 rfl (by decide)) (by rintro A m c e; injection e with e _ _; injection e with e; subst e; show wr.heap.size ≠ g; omega)).mono ?_
                rintro e w7 ⟨rfl, hs7, hg7⟩
                rw [show ((3 : Nat) : Int) = 3 from rfl]
                have HLS : Hid (longS xs (b + 3 + 3 * k) = strB (Lib.repeatL ([strB [48], strB [49], strB [48, 49]].getD (nx xs (b + 3 + 3 * k) 3).toNat ByteArray.empty).data.toList (32 + nx xs (b + 3 + 3 * k + 1) 2).toNat ++ Lib.repeatL [49] (nx xs (b + 3 + 3 * k + 2) 33).toNat)) := rfl
                have hss := some3 xs (b + 3 + 3 * k)
                generalize [strB [48], strB [49], strB [48, 49]].getD (nx xs (b + 3 + 3 * k) 3).toNat ByteArray.empty = s3 at *
                go_wp2_with fail
                refine (Range_any g xs (b + 3 + 3 * k + 1) 0 1 _ hs7 (by omega) (by omega) (by omega) (by omega) (by omega)).mono ?_
                rintro e w8 ⟨rfl, hs8, hg8⟩
                have n0 := nx_lo xs (b + 3 + 3 * k + 1) 2
                have n1 := nx_lt xs (b + 3 + 3 * k + 1) 2 (by omega)
                rw [show (1 : Int) - 0 + 1 = 2 from rfl, Int.zero_add]
                obtain ⟨r, hr⟩ := Int.eq_ofNat_of_zero_le n0
                rw [hr] at n1 HLS ⊢
                go_wp2_with fail
                rw [show (32 : Int) + (r : Int) = ((32 + r : Nat) : Int) by omega] at HLS ⊢
                refine (Repeat_any s3 (32 + r) _ (by omega) (by have := Nat.mul_le_mul hss (show 32 + r ≤ 33 by omega); omega)).mono ?_
                rintro e w9 ⟨rfl, hb9⟩
                have hs9 := hs8.below hb9
                go_wp2_with fail
                refine (Range_any g xs (b + 3 + 3 * k + 1 + 1) 0 32 _ hs9 (by omega) (by omega) (by omega) (by omega) (by omega)).mono ?_
                rintro e w10 ⟨rfl, hs10, hg10⟩
                have m0 := nx_lo xs (b + 3 + 3 * k + 1 + 1) 33
                have m1 := nx_lt xs (b + 3 + 3 * k + 1 + 1) 33 (by omega)
                rw [show (32 : Int) - 0 + 1 = 33 from rfl, Int.zero_add]
                rw [show b + 3 + 3 * (k : Int) + 2 = b + 3 + 3 * k + 1 + 1 by omega] at HLS
                obtain ⟨r2, hr2⟩ := Int.eq_ofNat_of_zero_le m0
                rw [hr2] at m1 HLS ⊢
                go_wp2_with fail
                refine (Repeat_any (strB [49]) r2 _ (by omega) (by rw [strB_size]; simp; omega)).mono ?_
                rintro e w11 ⟨rfl, hb11⟩
                have hs11 := hs10.below hb11
                have hgA := gb_below (World.grownBy.trans' (gb_below (World.grownBy.trans' (World.grownBy.trans' (gb_alloc (gb_refl wr (some g)) _) hg7) hg8) hb9) hg10) hb11
                have hownA := own_strm hown6 hgA hgl
                have hst := hownA.stored k (.string (longS xs (b + 3 + 3 * k)))
                rw [HST.out] at hst
                have hfz := hownA.frozenAt k
                obtain ⟨yy, hyy⟩ : ∃ yy, w11.cell? ⟨g1, k, none⟩ = some yy := by
                  have e := hownA.cellAt k (by omega)
                  rw [e]
                  exact ⟨_, List.getElem?_eq_getElem (by simp [longG]; have := HTL2.out; omega)⟩
                have hcat := run_string_add_sum (P := Tryz.prog) (w := w11) (strB (Lib.repeatL s3.data.toList (32 + r))) (strB (Lib.repeatL [49] r2)) (by rw [strB_size, strB_size, repeatL_len, repeatL_len]; have := Nat.mul_le_mul (show 32 + r ≤ 33 by omega) hss; simp; omega)
                have HLS2 : longS xs (b + 3 + 3 * k) = strB (Lib.repeatL s3.data.toList (32 + r) ++ Lib.repeatL [49] r2) := HLS.out
                rw [strB_app, ← HLS2] at hcat
                have hgwB := gb_own (World.grownBy.trans' hgw6 hgA) hst.2 (fun k hk => by injection hk with hk; omega)
                have hsB := hs11.far (p := ⟨g1, k, none⟩) (by show g < g1; omega) (.string (longS xs (b + 3 + 3 * k)))
                have HSB : Hid (Strm TS (w11.setCell ⟨g1, k, none⟩ (.string (longS xs (b + 3 + 3 * k)))) g xs (b + 3 + 3 * ((k + 1 : Nat) : Int))) := by
                  show Strm _ _ _ _ _
                  rw [show b + 3 + 3 * ((k + 1 : Nat) : Int) = b + 3 + 3 * k + 1 + 1 + 1 by omega]; exact hsB
                change (Op.stringOp .add ⟨(Lib.repeatL s3.data.toList (32 + r)).toArray⟩ ⟨(Lib.repeatL (strB [49]).data.toList r2).toArray⟩).run Tryz.prog w11 = _ at hcat
                clear HLS HLS2
                go_wp2_with fail
                go_roundw
                case rel => exact ⟨k + 1, by omega, by go_num, hst.1, HSB.out, hgwB⟩
                case measure => simp [intOf]; omega
              · obtain rfl : k = j := by omega
                have hdr : tr.drop k = [] := List.drop_eq_nil_of_le (by rw [HTL2.out]; exact Nat.le_refl _)
                rw [hdr, List.append_nil] at hown6
                go_wp2_with fail
                go_ret
                exact ⟨_, rfl, by rw [HAT2.out]; simp only; rw [longG_len]; exact hown6, by rw [HAT2.out]; exact hs6, hgw6⟩
          · have e41 : (nx xs (b + 1 + 1) 40 == 0) = false := beq_eq_false_iff_ne.2 (by rw [show b + 1 + 1 = b + 2 by omega]; exact h41)
            have HAT2 : Hid (atest xs a = (tr, b + 3)) := by show _ = _; rw [HAT.out, if_neg h20, if_neg h40, if_neg h41]
            clear HAT h20 h40 h41
            go_wp2_with fail
            refine (Flip_any g xs b _ _ hst (by omega) (by omega) (by omega)).mono ?_
            rintro e w3 ⟨rfl, hs3, hg3⟩
            rw [e20]
            have hgw3 := World.grownBy.trans' hgb hg3
            have hown3 := own_strm hown hg3 hgl
            go_wp2_with fail
            refine (Flip_any g xs (b + 1) _ _ hs3 (by omega) (by omega) (by omega)).mono ?_
            rintro e w4 ⟨rfl, hs4, hg4⟩
            rw [e40]
            have hgw4 := World.grownBy.trans' hgw3 hg4
            have hown4 := own_strm hown3 hg4 hgl
            go_wp2_with fail
            refine (Flip_any g xs (b + 1 + 1) _ _ hs4 (by omega) (by omega) (by omega)).mono ?_
            rintro e w5 ⟨rfl, hs5, hg5⟩
            rw [e41]
            have hgw5 := World.grownBy.trans' hgw4 hg5
            have hown5 := own_strm hown4 hg5 hgl
            go_wp2_with fail
            go_ret
            exact ⟨_, rfl, by rw [HAT2.out]; simp only; rw [HTL2.out]; exact hown5, by rw [HAT2.out]; simp only; rw [show b + 3 = b + 1 + 1 + 1 by omega]; exact hs5, hgw5⟩
end Go.Proofs.YtedpnjbbcfiheaaGreatDoor

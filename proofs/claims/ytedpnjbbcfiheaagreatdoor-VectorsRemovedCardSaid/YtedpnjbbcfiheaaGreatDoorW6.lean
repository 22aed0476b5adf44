/- Walks of respond, detected, masks. -/
import Derived.Test.YtedpnjbbcfiheaaGreatDoorW5
set_option linter.unusedVariables false
namespace Go.Proofs.YtedpnjbbcfiheaaGreatDoor
open Go.RowKit Go.Sc
/-- a fault as a value: its kind and its nets -/
def FV (w : World) (v : Value) (k : Int) (ns : List Int) : Prop := ∃ nv, v = .agg #[.int .i64 k, nv] ∧ Rd w 1 nv ns.length (ns.map (.int .i64))
theorem FV.below {w w' : World} {v : Value} {k : Int} {ns : List Int} (h : FV w v k ns) (hb : Below w.heap.size w w') : FV w' v k ns := by
  obtain ⟨nv, rfl, h⟩ := h
  exact ⟨nv, rfl, h.below hb⟩
/-- a right fault for so many nets -/
structure FOk (n : Nat) (k : Int) (ns : List Int) : Prop where
  one : 1 ≤ ns.length
  six : ns.length ≤ 6
  nets : ∀ x ∈ ns, 0 ≤ x ∧ x < n
set_option maxRecDepth 100000 in
theorem respond_any (v fv : Value) (n : Nat) (rs : List Nat) (k : Int) (ns : List Int) (long : Int) (w : World) (hr : Rd w 1 v n (u64s rs)) (hf : FV w fv k ns) (hn1 : 1 ≤ n) (hn : n ≤ 100) (hok : FOk n k ns)
    (hrs : ∀ r ∈ rs, r < 18446744073709551616) (h0 : 0 ≤ long) (h64 : long ≤ 64) :
    Calls Tryz.prog 126 #[v, fv, .int .i64 long] w fun e w' => ∃ v', e = .returned v' ∧ w'.ownsRow w.heap.size 73 1 v' n (u64s (withN rs k ns (onesN long))) ∧ Below w.heap.size w w' := by
  obtain ⟨A, c, rfl, h1, h2, h3, h4⟩ := hr
  obtain ⟨b, off, rfl, hc⟩ := h4 (by omega)
  obtain ⟨nv, rfl, hnv⟩ := hf
  obtain ⟨i0, hi, hz0, hz1, hz2⟩ := info_parts info_u64
  have hbl : Below w.heap.size w (w.alloc (.cells #[.int .i64 k, nv] 60)) := (Below.refl _ _).alloc (Nat.le_refl _) _
  go_enter Tryz.func126, Tryz.ntmps126
  go_wp2_with fail
  refine (Tryz.slices_Clone_f166 i0 _ 1 8 hi hz0 hz1 hz2 rfl (by decide) (fun _ => by kernel_rfl) b off n c (u64s rs) _ (by simpa using h3) (by unfold maxLen; omega) (by omega) (fun j u hu => cell_below hbl _ _ (hc j u hu)) (u64s_one rs)).mono ?_
  rintro e w1 ⟨v1, rfl, hown, hne, hb1⟩
  obtain ⟨g, cap, rfl, hg1, hg2⟩ := hown.form (by omega)
  have hs1 := hb1.size
  simp only [World.size_alloc] at hs1 hg1
  have c0 : w1.cell? ⟨w.heap.size, 0, none⟩ = some (.int .i64 k) := (hb1.cell (p := ⟨w.heap.size, 0, none⟩) (by simp)).trans (by rw [World.cell?_alloc_at _ _ _ _ rfl]; rfl)
  have c1 : w1.cell? ⟨w.heap.size, 1, none⟩ = some nv := (hb1.cell (p := ⟨w.heap.size, 1, none⟩) (by simp)).trans (by rw [World.cell?_alloc_at _ _ _ _ rfl]; rfl)
  have hnv1 := hnv.below (hbl.trans (hb1.mono (by simp)))
  go_wp2_with fail
  have hnvg : ∀ A m c, nv = .slice (some A) m c → A.block ≠ g := fun A m c e => by have := hnv.block_lt (by have := hok.one; omega) (by decide) A m c e; omega
  have hown' := own_mono hown (base' := w.heap.size) (by simp)
  have hol := ones_lt long h64
  have hNG := Lib.hid hnvg
  clear hnvg
  have hb2 : Below w.heap.size w w1.drew := (hbl.trans (hb1.mono (by simp))).drew
  have hs2 : w.heap.size ≤ w1.drew.heap.size := hb2.size
  go_region_with (first | (go_at_call 59; refine (whole_any _ h0 h64 _).mono ?_; rintro e w2 ⟨rfl, rfl⟩) | (go_at_call 96; go_loud (refine (with_any w.heap.size g n cap rs k nv ns.length ns (onesN long) w1.drew hown' hnv1 hok.one hok.nets hNG.out hn hrs hol hok.six).mono ?_); rintro e w2 ⟨rfl, hown2, hg2'⟩))
  all_goals go_wp2
  all_goals go_ret
  all_goals exact ⟨_, rfl, hown2, hb2.grown hg2' hs2 (by intro j hj; simp at hj; omega)⟩

def detN (rs : List Nat) (k : Int) (ns : List Int) (ones : Nat) : Nat := (List.range rs.length).foldl (fun a i => a ||| ((withN rs k ns ones)[i]?.getD 0 ^^^ rs[i]?.getD 0)) 0
theorem valN_lt (rs : List Nat) (k : Int) (ns : List Int) (ones : Nat) (hrs : ∀ r ∈ rs, r < 18446744073709551616) (ho : ones < 18446744073709551616) : valN rs k ns ones < 18446744073709551616 := by
  have h0 : ∀ i, atN rs i < 2 ^ 64 := fun i => by
    unfold atN
    cases h : rs[i.toNat]? with
    | none => simp
    | some r => exact hrs r (List.mem_of_getElem? h)
  have hand : ∀ (l : List Int) (a : Nat), a < 2 ^ 64 → l.foldl (fun v n => v &&& atN rs n) a < 2 ^ 64 := by
    intro l
    induction l with
    | nil => exact fun a h => h
    | cons n l ih => exact fun a h => ih _ (Nat.lt_of_le_of_lt Nat.and_le_left h)
  have hor : ∀ (l : List Int) (a : Nat), a < 2 ^ 64 → l.foldl (fun v n => v ||| atN rs n) a < 2 ^ 64 := by
    intro l
    induction l with
    | nil => exact fun a h => h
    | cons n l ih => exact fun a h => ih _ (Nat.or_lt_two_pow h (h0 n))
  unfold valN
  split
  · decide
  · split
    · exact ho
    · split
      · exact hand _ _ (h0 _)
      · split
        · exact hor _ _ (h0 _)
        · exact h0 _
theorem putN_lt (rs : List Nat) (ns : List Int) (x : Nat) (hrs : ∀ r ∈ rs, r < 18446744073709551616) (hx : x < 18446744073709551616) : ∀ r ∈ putN rs ns x, r < 18446744073709551616 := by
  unfold putN
  induction ns generalizing rs with
  | nil => exact hrs
  | cons n ns ih =>
    rw [List.foldl_cons]
    refine ih _ fun r hr => ?_
    rcases List.mem_or_eq_of_mem_set hr with h | h
    · exact hrs r h
    · rw [h]; exact hx
theorem withN_lt (rs : List Nat) (k : Int) (ns : List Int) (ones : Nat) (hrs : ∀ r ∈ rs, r < 18446744073709551616) (ho : ones < 18446744073709551616) : ∀ r ∈ withN rs k ns ones, r < 18446744073709551616 :=
  putN_lt rs ns _ hrs (valN_lt rs k ns ones hrs ho)
theorem withN_len (rs : List Nat) (k : Int) (ns : List Int) (ones : Nat) : (withN rs k ns ones).length = rs.length := putN_len _ _ _
theorem getD_lt {rs : List Nat} (hrs : ∀ r ∈ rs, r < 18446744073709551616) (i : Nat) : rs[i]?.getD 0 < 18446744073709551616 := by
  cases h : rs[i]? with
  | none => simp
  | some r => exact hrs r (List.mem_of_getElem? h)
set_option maxRecDepth 100000 in
theorem detected_any (v fv : Value) (n : Nat) (rs : List Nat) (k : Int) (ns : List Int) (long : Int) (w : World) (hr : Rd w 1 v n (u64s rs)) (hf : FV w fv k ns) (hn1 : 1 ≤ n) (hn : n ≤ 100) (hok : FOk n k ns)
    (hrs : ∀ r ∈ rs, r < 18446744073709551616) (h0 : 0 ≤ long) (h64 : long ≤ 64) :
    Calls Tryz.prog 111 #[v, fv, .int .i64 long] w fun e w' => e = .returned (.int .u64 ((detN rs k ns (onesN long) : Nat) : Int)) ∧ Below w.heap.size w w' := by
  have hrl : rs.length = n := by have := hr.len; rw [u64s_len] at this; omega
  have hr0 := hr
  obtain ⟨A, c, rfl, h1, h2, h3, h4⟩ := hr
  obtain ⟨b, off, rfl, hc⟩ := h4 (by omega)
  obtain ⟨nv, rfl, hnv⟩ := hf
  have hbl : Below w.heap.size w (w.alloc (.cells #[.int .i64 k, nv] 60)) := (Below.refl _ _).alloc (Nat.le_refl _) _
  have hr1 := hr0.below hbl
  have hf1 : FV (w.alloc (.cells #[.int .i64 k, nv] 60)) (.agg #[.int .i64 k, nv]) k ns := ⟨nv, rfl, Rd.below hnv hbl⟩
  have HR1 := Lib.hid hr1
  have HF1 := Lib.hid hf1
  have HC := Lib.hid hc
  have HRS := Lib.hid hrs
  clear hr0 hr1 hf1 hnv hc h4 hrs
  go_enter Tryz.func111, Tryz.ntmps111
  go_wp2_with fail
  refine (respond_any _ _ n rs k ns long _ HR1.out HF1.out hn1 hn hok HRS.out h0 h64).mono ?_
  rintro e w1 ⟨v1, rfl, hown, hb1⟩
  have hb2 : Below w.heap.size w w1 := hbl.trans (hb1.mono (by simp))
  obtain ⟨g, cap, rfl, hg1, hg2⟩ := hown.form (by omega)
  have HW := Lib.hid (withN_lt rs k ns (onesN long) HRS.out (ones_lt long h64))
  have HD : Hid (detN rs k ns (onesN long) = (List.range n).foldl (fun a i => a ||| ((withN rs k ns (onesN long))[i]?.getD 0 ^^^ rs[i]?.getD 0)) 0) := by show _ = _; rw [← hrl, detN]
  generalize hq : withN rs k ns (onesN long) = qs at *
  clear hq
  have HRL := Lib.hid hrl
  clear hrl
  go_wp2_with fail
  go_loop [7, 15] (fun x i => ∃ j q : Nat, j ≤ n ∧ i = .int .i64 j ∧ x = .int .u64 (q : Int) ∧ q < 18446744073709551616 ∧ Hid (q = (List.range j).foldl (fun a i => a ||| (qs[i]?.getD 0 ^^^ rs[i]?.getD 0)) 0)) (fun _ i => n - (intOf i).toNat)
  case atStart => exact ⟨0, 0, by omega, rfl, rfl, by omega, rfl⟩
  case round =>
    obtain ⟨j, q, hj, rfl, rfl, hq, HQ⟩ := hrel
    by_cases hlt : j < n
    · have e1 := own_cell_u64 hown j hlt
      have e2 : w1.cell? ⟨b, off + j, none⟩ = some (.int .u64 ((rs[j]?.getD 0 : Nat) : Int)) := cell_below hb2 _ _ (HC.out j _ (u64s_at rs j (by rw [HRL.out]; exact hlt)))
      have e3 := getD_lt HW.out j
      have e4 := getD_lt HRS.out j
      have HS : Hid (q ||| (qs[j]?.getD 0 ^^^ rs[j]?.getD 0) = (List.range (j + 1)).foldl (fun a i => a ||| (qs[i]?.getD 0 ^^^ rs[i]?.getD 0)) 0) := by
        show _ = _
        rw [List.range_succ, List.foldl_append, ← HQ.out]; rfl
      generalize qs[j]?.getD 0 = x at *
      generalize rs[j]?.getD 0 = y at *
      have e5 : x ^^^ y < 18446744073709551616 := Nat.xor_lt_two_pow (n := 64) e3 e4
      have HX := Lib.hid (u64_xor_nat x y e3 e4)
      have HY := Lib.hid (u64_or_nat q (x ^^^ y) hq e5)
      have e6 : q ||| (x ^^^ y) < 18446744073709551616 := Nat.or_lt_two_pow (n := 64) hq e5
      go_wp2_with fail
      go_round
      case rel => exact ⟨j + 1, q ||| (x ^^^ y), by omega, by go_num, by rw [HX.out, HY.out], e6, HS⟩
      case measure => simp [intOf]; omega
    · obtain rfl : j = n := by omega
      go_wp2_with fail
      go_ret
      exact ⟨by rw [HD.out, ← HQ.out]; rfl, hb2⟩
end Go.Proofs.YtedpnjbbcfiheaaGreatDoor

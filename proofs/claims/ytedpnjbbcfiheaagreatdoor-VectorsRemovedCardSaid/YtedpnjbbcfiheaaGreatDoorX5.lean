/- Sort, Compact, Clone, DeleteFunc at numbers in rows of the call's own. -/
import Derived.Test.YtedpnjbbcfiheaaGreatDoorX2
import Derived.Test.YtedpnjbbcfiheaaGreatDoorL4
import Derived.Sort.OwnSortedInts
import Derived.Lib.RowBridge
import Derived.Lib.SliceRun
set_option linter.unusedVariables false
namespace Go.Proofs.YtedpnjbbcfiheaaGreatDoor
open Go.RowKit Go.Sc Go.Sort
def sortZ (xs : List Int) : List Int := xs.mergeSort fun x y => decide (x ≤ y)
theorem Sort_own (base : Nat) (v : Value) (n : Nat) (xs : List Int) (w : World) (h : w.ownsRow base 3 1 v n (xs.map (.int .i64))) (hn : n < 4611686018427387904) :
    Calls Tryz.prog 50 #[v] w fun e w' => e = .returned (.tuple #[]) ∧ w'.ownsRow base 3 1 v n ((sortZ xs).map (.int .i64)) ∧ w.grownBy w' v.ownBlock := by
  have hl : xs.length = n := by have := h.1; simpa using this
  rcases h.2 with ⟨rfl, rfl⟩ | ⟨g, cap, cur, rfl, hb, hg, hnc, hcm, hcs, ht⟩
  · obtain rfl : xs = [] := List.eq_nil_of_length_eq_zero hl
    refine (Tryz.slices_Sort_int_none none 0 w).mono ?_
    rintro e w' ⟨rfl, rfl⟩
    exact ⟨rfl, by rw [show sortZ [] = [] from by simp [sortZ]]; exact h, ⟨rfl, rfl, rfl, Nat.le_refl _, fun _ _ _ => rfl⟩⟩
  · have hglt : g < w.heap.size := (own_lt h rfl).2
    have hsl : (sortZ xs).length = xs.length := List.length_mergeSort _
    subst hl
    refine (Tryz.slices_Sort_int g 0 cap xs w (holds_of_blockI hg (by simpa using ht)) hglt hn).mono ?_
    rintro e w' ⟨rfl, q, os, rfl⟩
    exact ⟨rfl, ownsRow_sortedI (ss := xs) (ts := sortZ xs) hsl hb hg hnc hcm hcs, grownBy_sortedI _⟩
theorem Compact_own (base : Nat) (v : Value) (n : Nat) (xs : List Int) (w : World) (h : w.ownsRow base 3 1 v n (xs.map (.int .i64))) (hn : n < 4611686018427387904) :
    Calls Tryz.prog 67 #[v] w fun e w' => ∃ v', e = .returned v' ∧ w'.ownsRow base 3 1 v' (Lib.compact xs).length ((Lib.compact xs).map (.int .i64)) ∧ w.grownBy w' v.ownBlock := by
  have hl : xs.length = n := by have := h.1; simpa using this
  rcases h.2 with ⟨rfl, rfl⟩ | ⟨g, cap, cur, rfl, hb, hg, hnc, hcm, hcs, ht⟩
  · obtain rfl : xs = [] := List.eq_nil_of_length_eq_zero hl
    refine (Tryz.slices_Compact_int_empty none 0 w).mono ?_
    rintro e w' ⟨rfl, rfl⟩
    exact ⟨_, rfl, h, ⟨rfl, rfl, rfl, Nat.le_refl _, fun _ _ _ => rfl⟩⟩
  · subst hl
    refine (Tryz.slices_Compact_int g 0 cap xs w (holds_of_blockI hg (by simpa using ht)) (by omega) hnc).mono ?_
    rintro e w' ⟨rfl, q, rfl⟩
    have hcl : (Lib.compact xs).length ≤ xs.length := by
      unfold Lib.compact Lib.compactUpTo
      rw [List.length_map]
      exact Nat.le_trans (List.length_filter_le _ _) (by simp)
    refine ⟨_, rfl, ?_, grown_putRow⟩
    have := Lib.ownsRow_putRow (q := q) (ys := Lib.compact xs ++ List.replicate (xs.length - (Lib.compact xs).length) 0) h (by simp; omega) hcl
    rwa [List.take_left'] at this
    rfl
theorem Clone_rd (v : Value) (n : Nat) (xs : List Int) (w : World) (hr : Rd w 1 v n (xs.map (.int .i64))) (hn : n ≤ 1000000) :
    Calls Tryz.prog 55 #[v] w fun e w' => ∃ v', e = .returned v' ∧ w'.ownsRow w.heap.size 3 1 v' n (xs.map (.int .i64)) ∧ Below w.heap.size w w' := by
  have hl : xs.length = n := by have := hr.len; simpa using this
  obtain ⟨A, c, rfl, h1, h2, h3, h4⟩ := hr
  cases A with
  | none =>
    have hn0 : n = 0 := by
      rcases Nat.eq_zero_or_pos n with h | h
      · exact h
      · obtain ⟨b, off, e, _⟩ := h4 h
        cases e
    subst hn0
    obtain rfl : xs = [] := List.eq_nil_of_length_eq_zero hl
    refine (Tryz.slices_Clone_int_nil 0 c w).mono ?_
    rintro e w' ⟨rfl, rfl⟩
    exact ⟨_, rfl, World.ownsRow_nil _ _ _ _, Below.refl _ _⟩
  | some a =>
    rcases Nat.eq_zero_or_pos n with h0 | h0
    · subst h0
      obtain rfl : xs = [] := List.eq_nil_of_length_eq_zero hl
      refine (Tryz.slices_Clone_int_zero a c w).mono ?_
      rintro e w' ⟨v', rfl, ho, _, hb⟩
      exact ⟨_, rfl, ho, hb⟩
    · obtain ⟨b, off, e, hc⟩ := h4 h0
      injection e with e
      subst e
      refine (Tryz.slices_Clone_int b off n c xs w (by omega) (by omega) (rd_int_at h3 hc)).mono ?_
      rintro e w' ⟨v', rfl, ho, _, hb⟩
      rw [List.take_of_length_le (by omega)] at ho
      exact ⟨_, rfl, ho, hb⟩
/-- the function value answers p x at every x of the list, whatever has been made and whatever has turned from block B on -/
def AnsB (P : Program) (B : Nat) (w : World) (F : FuncId) (cap : Array Value) (p : Int → Bool) (xs : List Int) : Prop :=
  ∀ W, Below B w W → ∀ x ∈ xs, Calls P F (#[.int .i64 x] ++ cap) W fun e w' => e = .returned (.bool (p x)) ∧ Below W.heap.size W w'
def delN (p : Int → Bool) (xs : List Int) (j : Nat) : List Int := (xs.take j).filter fun x => !p x
theorem delN_succ (p : Int → Bool) (xs : List Int) (j : Nat) (x : Int) (h : xs[j]? = some x) : delN p xs (j + 1) = delN p xs j ++ (if p x then [] else [x]) := by
  unfold delN
  have hj : j < xs.length := by
    rcases Nat.lt_or_ge j xs.length with h' | h'
    · exact h'
    · rw [List.getElem?_eq_none h'] at h; cases h
  rw [List.take_succ_eq_append_getElem hj, List.filter_append]
  have e : xs[j] = x := by rw [List.getElem?_eq_getElem hj] at h; simpa using h
  rw [e]
  cases hp : p x <;> simp [hp]
theorem delN_len (p : Int → Bool) (xs : List Int) (j : Nat) : (delN p xs j).length ≤ j := Nat.le_trans (List.length_filter_le _ _) (by simp; omega)
theorem goF_spec {α : Type} (p : α → Bool) : ∀ (xs : List α) (i : Nat), (goF p i xs = -1 ∧ ∀ x ∈ xs, p x = false) ∨ ∃ k, k < xs.length ∧ goF p i xs = ((i + k : Nat) : Int) ∧ (∀ j, j < k → ∀ x, xs[j]? = some x → p x = false) ∧ ∀ x, xs[k]? = some x → p x = true
  | [], i => .inl ⟨rfl, fun x h => by cases h⟩
  | y :: r, i => by
    cases h : p y with
    | true => exact .inr ⟨0, by simp, by simp [goF, h], fun j hj => by omega, fun x hx => by simp at hx; rw [← hx, h]⟩
    | false =>
      rcases goF_spec p r (i + 1) with ⟨e, ha⟩ | ⟨k, hk, e, ha, ht⟩
      · refine .inl ⟨by simp [goF, h, e], fun x hx => ?_⟩
        rcases List.mem_cons.1 hx with rfl | hx
        · exact h
        · exact ha x hx
      · refine .inr ⟨k + 1, by simpa using hk, by simp only [goF, h]; rw [if_neg (by decide), e]; congr 1; omega, fun j hj x hx => ?_, fun x hx => ht x (by simpa using hx)⟩
        cases j with
        | zero => simp at hx; rw [← hx, h]
        | succ j => exact ha j (by omega) x (by simpa using hx)
theorem delN_none (p : Int → Bool) (xs : List Int) (h : ∀ x ∈ xs, p x = false) : delN p xs xs.length = xs := by
  unfold delN
  rw [List.take_length]
  exact List.filter_eq_self.2 fun x hx => by rw [h x hx]; rfl
theorem delN_head (p : Int → Bool) (xs : List Int) (k : Nat) (h : ∀ j, j < k → ∀ x, xs[j]? = some x → p x = false) : delN p xs k = xs.take k := by
  unfold delN
  refine List.filter_eq_self.2 fun x hx => ?_
  obtain ⟨j, hj⟩ := List.mem_iff_getElem?.1 hx
  have hjk : j < k := by
    rcases Nat.lt_or_ge j k with h' | h'
    · exact h'
    · rw [List.getElem?_take_eq_none h'] at hj; cases hj
  rw [List.getElem?_take_of_lt hjk] at hj
  rw [h j hjk x hj]; rfl
set_option maxRecDepth 100000 in
set_option maxHeartbeats 1000000 in
theorem DeleteFunc_own (B : Nat) (v : Value) (n : Nat) (xs : List Int) (F : FuncId) (capv : Array Value) (p : Int → Bool) (w : World) (hown : w.ownsRow B 3 1 v n (xs.map (.int .i64))) (hBw : B ≤ w.heap.size) (hn : n ≤ 1000000) (hA : AnsB Tryz.prog B w F capv p xs) (he : ∀ args W, (callFunc F args).run Tryz.prog W = .ok (.enter F args) W) :
    Calls Tryz.prog 69 #[v, .func (.func F) #[] capv] w fun e w' => ∃ v', e = .returned v' ∧ w'.ownsRow B 3 1 v' (xs.filter fun x => !p x).length ((xs.filter fun x => !p x).map (.int .i64)) ∧ Below B w w' := by
  have hl : xs.length = n := by have := hown.1; simpa using this
  have hans : Ans Tryz.prog w F capv (.int .i64) p xs := fun W hb x hx => hA W (hb.mono hBw) x hx
  have hdn : (xs.filter fun x => !p x) = delN p xs n := by unfold delN; rw [List.take_of_length_le (by omega)]
  rw [hdn]
  have HI := Lib.hid (IndexFunc_any v n xs F capv p w (Rd.of_own hown) hn hans he)
  rcases goF_spec p xs 0 with ⟨e1, hall⟩ | ⟨k0, hk0, e1, hall, hat⟩
  · have HX : Hid (idxF p xs = -1) := e1
    have HD : Hid (delN p xs n = xs) := by show _ = _; rw [← hl, delN_none p xs hall]
    clear hall e1 hdn
    go_enter Tryz.func69, Tryz.ntmps69
    go_wp2_with fail
    refine HI.out.mono ?_
    rintro e w2 ⟨rfl, hb2⟩
    rw [HX.out]
    go_wp2_with fail
    go_ret
    exact ⟨_, rfl, by rw [HD.out, hl]; exact own_below hown hb2, hb2.mono hBw⟩
  · have HX : Hid (idxF p xs = (k0 : Int)) := by show _ = _; rw [idxF, e1]; simp
    obtain ⟨g, cap, rfl, hg1, hg2⟩ := hown.form (by omega)
    have hcap : n ≤ cap ∧ cap ≤ maxLen := by
      obtain ⟨A, c, e, h1, h2, _⟩ := Rd.of_own hown
      injection e with _ _ e3
      subst e3
      exact ⟨h1, h2⟩
    obtain ⟨hc1, hc2⟩ := hcap
    have hk0n : k0 < n := by omega
    have HS : Hid (delN p xs (k0 + 1) = xs.take k0) := by
      show _ = _
      have hx := List.getElem?_eq_getElem hk0
      rw [delN_succ p xs k0 _ hx, hat _ hx, delN_head p xs k0 hall]; simp
    have HSL : Hid ((delN p xs (k0 + 1)).length = k0) := by show _ = _; rw [HS.out]; simp; omega
    have HA := Lib.hid hA
    have HL := Lib.hid hl
    have v23 := Tryz.zeroValue3
    clear hall hat e1 hdn hk0 hA hans hl
    go_enter Tryz.func69, Tryz.ntmps69
    go_wp2_with fail
    refine HI.out.mono ?_
    rintro e w2 ⟨rfl, hb2⟩
    rw [HX.out]
    have hown2 := own_below hown hb2
    have hbB := hb2.mono hBw
    clear hown hb2
    have e12 : (((k0 : Nat) : Int) == -1) = false := beq_eq_false_iff_ne.2 (by omega)
    go_wp2_with fail
    go_loopw [5, 6] (fun x i wr => ∃ k j : Nat, ∃ zs : List Int, j ≤ n ∧ k < j ∧ x = .int .i64 k ∧ i = .int .i64 j ∧ Hid (k = (delN p xs j).length) ∧ wr.ownsRow B 3 1 (.slice (some ⟨g, 0, none⟩) n cap) n (zs.map (.int .i64)) ∧ Hid (zs.take k = delN p xs j) ∧ Hid (∀ i, j ≤ i → zs[i]? = xs[i]?) ∧ Below B w wr) (fun _ i _ => n - (intOf i).toNat)
    case atStart => exact ⟨k0, k0 + 1, xs, by omega, by omega, by go_num, by go_num, HSL.out.symm, hown2, HS.out.symm, fun _ _ => rfl, hbB⟩
    case round =>
      obtain ⟨k, j, zs, hj, hkj, rfl, rfl, hkl, hown, HZ, HY, hbel⟩ := hrel
      have hsz := hbel.size
      by_cases hlt : j < n
      · obtain ⟨x, hx⟩ : ∃ x, xs[j]? = some x := ⟨xs[j]'(by rw [HL.out]; exact hlt), List.getElem?_eq_getElem _⟩
        have c1 : wr.cell? ⟨g, j, none⟩ = some (.int .i64 x) := by
          rw [own_cell_int hown j hlt, HY.out j (Nat.le_refl _), hx]; rfl
        have HC := Lib.hid (HA.out _ hbel x (List.mem_of_getElem? hx))
        have HD := Lib.hid (delN_succ p xs j x hx)
        clear hx
        go_wp2_with fail
        refine HC.out.mono ?_
        rintro e w3 ⟨rfl, hb3⟩
        have hown3 := own_below hown hb3
        have hb3s := hb3.size
        have hbel3 := hbel.trans (hb3.mono (by omega))
        clear hown hbel hb3
        cases hp : p x
        · have HD2 : Hid (delN p xs (j + 1) = delN p xs j ++ [x]) := by show _ = _; rw [HD.out, hp]; rfl
          have hst := hown3.stored k (.int .i64 x)
          have fz := hown3.frozenAt k
          obtain ⟨y, cy⟩ : ∃ y, w3.cell? ⟨g, k, none⟩ = some y := ⟨_, own_cell_int hown3 k (by omega)⟩
          go_wp2_with fail
          have hset : Value.int IntKind.i64 x :: [] = [x].map (Value.int IntKind.i64) := rfl
          go_roundw
          case rel =>
            refine ⟨k + 1, j + 1, zs.set k x, by omega, by omega, by go_num, by go_num, by show _ = _; rw [HD2.out, List.length_append, ← hkl.out]; rfl, by rw [List.map_set]; exact hst.1, ?_, fun i hi => by rw [List.getElem?_set_ne (by omega)]; exact HY.out i (by omega), hbel3.grown hst.2 (by omega) (fun j hj => ?_)⟩
            · show _ = _
              rw [HD2.out, ← HZ.out]
              have hzl : k < zs.length := by have := hown3.1; simp at this; omega
              rw [List.take_succ_eq_append_getElem (by simpa using hzl)]
              simp [List.take_set_of_le]
            · injection hj with hj
              subst hj
              exact hg1
          case measure => simp [intOf]; omega
        · have HD2 : Hid (delN p xs (j + 1) = delN p xs j) := by show _ = _; rw [HD.out, hp]; simp
          go_wp2_with fail
          go_roundw
          case rel => exact ⟨k, j + 1, zs, by omega, by omega, rfl, by go_num, by rw [HD2.out]; exact hkl, hown3, by show _ = _; rw [HD2.out]; exact HZ.out, fun i hi => HY.out i (by omega), hbel3⟩
          case measure => simp [intOf]; omega
      · obtain rfl : j = n := by omega
        have hcl : ∀ ty, (Builtin.clear_ #[22] ty #[.slice (some ⟨g, k, none⟩) (j - k) (cap - k)]).run Tryz.prog wr = .ok (.tuple #[]) (wr.setCells g k (List.replicate (j - k) (.int .i64 0))) :=
          fun ty => Lib.run_clear_slice wr _ _ ty _ Tryz.underlying22 v23 rfl rfl g k _ _ (by omega) (fun t ht => by rw [own_cell_int hown (k + t) (by omega)]; rfl) (fun t ht => hown.frozenAt _)
        obtain ⟨ys, y1, y2, y3⟩ := own_setCells (List.replicate (j - k) (Value.int .i64 0)) k hown
        have y4 := own_cut y1 (k := k) (by omega)
        rw [y2, ← List.map_take, HZ.out] at y4
        have hb9 : Below B w (wr.setCells g k (List.replicate (j - k) (.int .i64 0))) := hbel.grown y3 (by omega) (fun i hi => by injection hi with hi; subst hi; exact hg1)
        clear y1 y3 hown hbel
        generalize wr.setCells g k (List.replicate (j - k) (.int .i64 0)) = w9 at *
        go_wp2_with fail
        go_ret
        exact ⟨_, rfl, by rw [← hkl.out]; exact y4, hb9⟩
end Go.Proofs.YtedpnjbbcfiheaaGreatDoor

/- Walks of CheckTest and of its reference. -/
import Derived.Test.YtedpnjbbcfiheaaGreatDoorW7
set_option linter.unusedVariables false
namespace Go.Proofs.YtedpnjbbcfiheaaGreatDoor
open Go.RowKit Go.Sc
def tfL (z : Nat) : List ByteArray → Int
  | [] => 0
  | s :: r => if bits01 s = false then 3 else if 64 < s.size then 2 else if s.size ≠ z then 3 else tfL z r
/-- what is wrong with a test -/
def tfault (ss : List ByteArray) : Int := if ss.length = 0 then 8 else if 100 < ss.length then 2 else tfL (ss.headD ByteArray.empty).size ss
/-- strings that came in are not too long for the machine -/
def szOk (ss : List ByteArray) : Prop := ∀ s ∈ ss, s.size ≤ 9223372036854775807
theorem tfL_ok (z : Nat) (ss : List ByteArray) (h : tfL z ss = 0) : ∀ s ∈ ss, s.size ≤ 64 ∧ bits01 s = true ∧ s.size = z := by
  induction ss with
  | nil => simp
  | cons s r ih =>
    unfold tfL at h
    split at h
    · cases h
    · split at h
      · cases h
      · split at h
        · cases h
        · intro x hx
          rcases List.mem_cons.1 hx with rfl | hx
          · rename_i h1 h2 h3
            exact ⟨by omega, by simpa using h1, by simpa using h3⟩
          · exact ih h x hx
theorem tfault_ok {ss : List ByteArray} (h : tfault ss = 0) : 1 ≤ ss.length ∧ ss.length ≤ 100 ∧ okTest ss ∧ ∀ s ∈ ss, s.size = (ss.headD ByteArray.empty).size := by
  unfold tfault at h
  split at h
  · cases h
  · split at h
    · cases h
    · have := tfL_ok _ _ h
      exact ⟨by omega, by omega, fun s hs => ⟨(this s hs).1, (this s hs).2.1⟩, fun s hs => (this s hs).2.2⟩
set_option maxRecDepth 100000 in
set_option maxHeartbeats 1000000 in
theorem CheckTest_any (v : Value) (n : Nat) (ss : List ByteArray) (w : World) (hr : Rd w 1 v n (ss.map .string)) (hsz : szOk ss) :
    Calls Tryz.prog 110 #[v] w fun e w' => e = .returned (.int .i64 (tfault ss)) ∧ Below w.heap.size w w' := by
  have hl : ss.length = n := by have := hr.len; simpa using this
  obtain ⟨A, c, rfl, h1, h2, h3, h4⟩ := hr
  by_cases hn0 : n = 0
  · subst hn0
    go_enter Tryz.func110, Tryz.ntmps110
    go_wp2_with fail
    go_ret
    exact ⟨ret_int (by simp [tfault, hl]), Below.refl _ _⟩
  · by_cases hn1 : 100 < n
    · have e0 : ((n : Int) == 0) = false := by simp; omega
      have e1 : Hid (tfault ss = 2) := by show tfault ss = 2; simp [tfault, hl, hn0, hn1]
      clear hl h3 h4
      go_enter Tryz.func110, Tryz.ntmps110
      go_wp2_with fail
      go_ret
      exact ⟨ret_int e1.out.symm, Below.refl _ _⟩
    · obtain ⟨b, off, rfl, hc⟩ := h4 (by omega)
      have hs0 : ss.headD ByteArray.empty = ss[0]'(by omega) := by cases ss with
        | nil => simp at hl; omega
        | cons s t => rfl
      have hc0 : w.cell? ⟨b, off, none⟩ = some (.string (ss.headD ByteArray.empty)) := by
        have := hc 0 (.string (ss.headD ByteArray.empty)) (by rw [hs0]; simp [List.getElem?_eq_getElem (show 0 < ss.length by omega)])
        simpa using this
      have HT : Hid (tfault ss = tfL (ss.headD ByteArray.empty).size (ss.drop 0)) := by show tfault ss = _; simp [tfault, hl, hn0, hn1]
      clear hs0
      generalize ss.headD ByteArray.empty = s0 at *
      have e0 : ((n : Int) == 0) = false := by simp; omega
      have e1 : 0 < n := by omega
      have HC := Lib.hid hc
      have HL := Lib.hid hl
      clear hl h3 h4 hc hn0
      go_enter Tryz.func110, Tryz.ntmps110
      go_wp2_with fail
      go_loopw [15] (fun i wr => ∃ k : Nat, k ≤ n ∧ i = .int .i64 k ∧ Hid (tfault ss = tfL s0.size (ss.drop k)) ∧ Below w.heap.size w wr) (fun i _ => n - (intOf i).toNat)
      case atStart => exact ⟨0, by omega, rfl, HT, Below.refl _ _⟩
      case round =>
        obtain ⟨k, hk, rfl, HK, hbel⟩ := hrel
        clear HT
        by_cases hlt : k < n
        · obtain ⟨s, hsk⟩ : ∃ s, ss[k]? = some s := ⟨ss[k]'(by rw [HL.out]; exact hlt), List.getElem?_eq_getElem _⟩
          have c1 := cell_below hbel _ _ (HC.out k (.string s) (by simp [hsk]))
          have c0 := cell_below hbel _ _ hc0
          have hss := hsz s (List.mem_of_getElem? hsk)
          have HD := Lib.hid (drop_at hsk)
          clear hsk
          have HU : Hid (tfault ss = if bits01 s = false then 3 else if 64 < s.size then 2 else if s.size ≠ s0.size then 3 else tfL s0.size (ss.drop (k + 1))) := by
            show tfault ss = _; rw [HK.out, HD.out, tfL]
          clear HK HD
          cases hb : bits01 s
          · go_wp2_with (go_at_call 160; refine (Bits_any s _ hss).mono ?_; rintro e w3 ⟨rfl, hb3⟩)
            go_ret
            exact ⟨ret_int (by rw [HU.out, if_pos hb]), hbel.trans (hb3.mono hbel.size)⟩
          · by_cases h64 : 64 < s.size
            · go_wp2_with (go_at_call 160; refine (Bits_any s _ hss).mono ?_; rintro e w3 ⟨rfl, hb3⟩)
              go_ret
              exact ⟨ret_int (by rw [HU.out, if_neg (by rw [hb]; decide), if_pos h64]), hbel.trans (hb3.mono hbel.size)⟩
            · by_cases hz : s.size = s0.size
              · have ez : ((s.size : Int) != (s0.size : Int)) = false := by simp [hz]
                have HZ := Lib.hid hz
                clear hz
                go_wp2_with (go_at_call 160; refine (Bits_any s _ hss).mono ?_; rintro e w3 ⟨rfl, hb3⟩; have c0' := cell_below hb3 _ _ c0)
                go_roundw
                case rel => exact ⟨k + 1, by omega, by go_num, by show tfault ss = _; rw [HU.out, if_neg (by rw [hb]; decide), if_neg h64, if_neg (by simp [HZ.out])], hbel.trans (hb3.mono hbel.size)⟩
                case measure => simp [intOf]; omega
              · have ez : ((s.size : Int) != (s0.size : Int)) = true := by simp; omega
                go_wp2_with (go_at_call 160; refine (Bits_any s _ hss).mono ?_; rintro e w3 ⟨rfl, hb3⟩; have c0' := cell_below hb3 _ _ c0)
                go_ret
                exact ⟨ret_int (by rw [HU.out, if_neg (by rw [hb]; decide), if_neg h64, if_pos hz]), hbel.trans (hb3.mono hbel.size)⟩
        · obtain rfl : k = n := by omega
          have HZ : Hid (tfault ss = 0) := by show tfault ss = 0; rw [HK.out, List.drop_eq_nil_of_le (by rw [HL.out]; exact Nat.le_refl _)]; rfl
          go_wp2_with fail
          go_ret
          exact ⟨ret_int HZ.out.symm, hbel⟩
theorem rBits_b (s : ByteArray) (w : World) (hs : s.size ≤ 9223372036854775807) : Calls Tryz.prog 117 #[.string s] w fun e w' => e = .returned (.bool (bits01 s)) ∧ Below w.heap.size w w' :=
  (rBits_any s w hs).mono fun _ _ ⟨h1, h2⟩ => ⟨h1, h2 ▸ Below.refl _ _⟩
set_option maxRecDepth 100000 in
set_option maxHeartbeats 1000000 in
theorem TestFault_any (v : Value) (n : Nat) (ss : List ByteArray) (w : World) (hr : Rd w 1 v n (ss.map .string)) (hsz : szOk ss) :
    Calls Tryz.prog 64 #[v] w fun e w' => e = .returned (.int .i64 (tfault ss)) ∧ Below w.heap.size w w' := by
  have hl : ss.length = n := by have := hr.len; simpa using this
  obtain ⟨A, c, rfl, h1, h2, h3, h4⟩ := hr
  by_cases hn0 : n = 0
  · subst hn0
    go_enter Tryz.func64, Tryz.ntmps64
    go_wp2_with fail
    go_ret
    exact ⟨ret_int (by simp [tfault, hl]), Below.refl _ _⟩
  · by_cases hn1 : 100 < n
    · have e0 : ((n : Int) == 0) = false := by simp; omega
      have e1 : Hid (tfault ss = 2) := by show tfault ss = 2; simp [tfault, hl, hn0, hn1]
      clear hl h3 h4
      go_enter Tryz.func64, Tryz.ntmps64
      go_wp2_with fail
      go_ret
      exact ⟨ret_int e1.out.symm, Below.refl _ _⟩
    · obtain ⟨b, off, rfl, hc⟩ := h4 (by omega)
      have hs0 : ss.headD ByteArray.empty = ss[0]'(by omega) := by cases ss with
        | nil => simp at hl; omega
        | cons s t => rfl
      have hc0 : w.cell? ⟨b, off, none⟩ = some (.string (ss.headD ByteArray.empty)) := by
        have := hc 0 (.string (ss.headD ByteArray.empty)) (by rw [hs0]; simp [List.getElem?_eq_getElem (show 0 < ss.length by omega)])
        simpa using this
      have HT : Hid (tfault ss = tfL (ss.headD ByteArray.empty).size (ss.drop 0)) := by show tfault ss = _; simp [tfault, hl, hn0, hn1]
      clear hs0
      generalize ss.headD ByteArray.empty = s0 at *
      have e0 : ((n : Int) == 0) = false := by simp; omega
      have e1 : 0 < n := by omega
      have HC := Lib.hid hc
      have HL := Lib.hid hl
      clear hl h3 h4 hc hn0
      go_enter Tryz.func64, Tryz.ntmps64
      go_wp2_with fail
      go_loopw [15] (fun i wr => ∃ k : Nat, k ≤ n ∧ i = .int .i64 k ∧ Hid (tfault ss = tfL s0.size (ss.drop k)) ∧ Below w.heap.size w wr) (fun i _ => n - (intOf i).toNat)
      case atStart => exact ⟨0, by omega, rfl, HT, Below.refl _ _⟩
      case round =>
        obtain ⟨k, hk, rfl, HK, hbel⟩ := hrel
        clear HT
        by_cases hlt : k < n
        · obtain ⟨s, hsk⟩ : ∃ s, ss[k]? = some s := ⟨ss[k]'(by rw [HL.out]; exact hlt), List.getElem?_eq_getElem _⟩
          have c1 := cell_below hbel _ _ (HC.out k (.string s) (by simp [hsk]))
          have c0 := cell_below hbel _ _ hc0
          have hss := hsz s (List.mem_of_getElem? hsk)
          have HD := Lib.hid (drop_at hsk)
          clear hsk
          have HU : Hid (tfault ss = if bits01 s = false then 3 else if 64 < s.size then 2 else if s.size ≠ s0.size then 3 else tfL s0.size (ss.drop (k + 1))) := by
            show tfault ss = _; rw [HK.out, HD.out, tfL]
          clear HK HD
          cases hb : bits01 s
          · go_wp2_with (go_at_call 117; refine (rBits_b s _ hss).mono ?_; rintro e w3 ⟨rfl, hb3⟩)
            go_ret
            exact ⟨ret_int (by rw [HU.out, if_pos hb]), hbel.trans (hb3.mono hbel.size)⟩
          · by_cases h64 : 64 < s.size
            · go_wp2_with (go_at_call 117; refine (rBits_b s _ hss).mono ?_; rintro e w3 ⟨rfl, hb3⟩)
              go_ret
              exact ⟨ret_int (by rw [HU.out, if_neg (by rw [hb]; decide), if_pos h64]), hbel.trans (hb3.mono hbel.size)⟩
            · by_cases hz : s.size = s0.size
              · have ez : ((s.size : Int) != (s0.size : Int)) = false := by simp [hz]
                have HZ := Lib.hid hz
                clear hz
                go_wp2_with (go_at_call 117; refine (rBits_b s _ hss).mono ?_; rintro e w3 ⟨rfl, hb3⟩; have c0' := cell_below hb3 _ _ c0)
                go_roundw
                case rel => exact ⟨k + 1, by omega, by go_num, by show tfault ss = _; rw [HU.out, if_neg (by rw [hb]; decide), if_neg h64, if_neg (by simp [HZ.out])], hbel.trans (hb3.mono hbel.size)⟩
                case measure => simp [intOf]; omega
              · have ez : ((s.size : Int) != (s0.size : Int)) = true := by simp; omega
                go_wp2_with (go_at_call 117; refine (rBits_b s _ hss).mono ?_; rintro e w3 ⟨rfl, hb3⟩; have c0' := cell_below hb3 _ _ c0)
                go_ret
                exact ⟨ret_int (by rw [HU.out, if_neg (by rw [hb]; decide), if_neg h64, if_pos hz]), hbel.trans (hb3.mono hbel.size)⟩
        · obtain rfl : k = n := by omega
          have HZ : Hid (tfault ss = 0) := by show tfault ss = 0; rw [HK.out, List.drop_eq_nil_of_le (by rw [HL.out]; exact Nat.le_refl _)]; rfl
          go_wp2_with fail
          go_ret
          exact ⟨ret_int HZ.out.symm, hbel⟩
end Go.Proofs.YtedpnjbbcfiheaaGreatDoor

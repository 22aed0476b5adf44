import Derived.Test.YtedpnjbbcfiheaaGreatDoorFLB05
import Derived.OwnWalk
set_option linter.unusedSimpArgs false
set_option linter.unusedSectionVars false
set_option linter.unusedVariables false
/- Walk of texts. -/
set_option linter.unusedVariables false
namespace Go.Proofs.YtedpnjbbcfiheaaGreatDoor
open Go.RowKit Go.Sc
def bytesT (r z : Nat) : List UInt8 := (List.range z).map fun i => if r.testBit i = true then 49 else 48
theorem bytesT_len (r z : Nat) : (bytesT r z).length = z := by simp [bytesT]
theorem bytesT_succ (r z : Nat) : bytesT r (z + 1) = bytesT r z ++ [if r.testBit z = true then 49 else 48] := by simp [bytesT, List.range_succ]
def textN (z : Nat) (r : Nat) : ByteArray := ⟨(bytesT r z).toArray⟩
theorem u8s_set (l : List UInt8) (j : Nat) (c : UInt8) : (u8s l).set j (.int .u8 (c.toNat : Int)) = u8s (l.set j c) := by simp [u8s, List.map_set]
theorem own_set_u8 {w : World} {base g n cap : Nat} {e : TypeId} {l : List UInt8} (h : w.ownsRow base e 1 (.slice (some ⟨g, 0, none⟩) n cap) n (u8s l)) (j : Nat) (c : UInt8) :
    (w.setCell ⟨g, j, none⟩ (.int .u8 (c.toNat : Int))).ownsRow base e 1 (.slice (some ⟨g, 0, none⟩) n cap) n (u8s (l.set j c)) := by
  have := (h.stored j (.int .u8 (c.toNat : Int))).1
  rwa [u8s_set] at this
theorem made_u8 (n : Nat) : (madeCells (Value.int .u8 0).cells (n * 1)).toList = u8s (List.replicate n 0) := by
  unfold madeCells u8s
  apply List.ext_getElem
  · simp
  · intro i h1 h2
    simp [Value.cells, Nat.mod_one]
theorem own_cell_u8 {w : World} {base g n cap : Nat} {e : TypeId} {l : List UInt8} (h : w.ownsRow base e 1 (.slice (some ⟨g, 0, none⟩) n cap) n (u8s l)) (j : Nat) (hj : j < n) : w.cell? ⟨g, j, none⟩ = some (.int .u8 ((l[j]?.getD 0).toNat : Int)) := by
  have hl := h.1
  have hl' : l.length = n := by simpa [u8s] using hl
  rw [h.cellAt j (by omega)]
  simp [u8s, List.getElem?_eq_getElem (show j < l.length by omega)]
theorem below_grown0 {w w' : World} (h : w.grownBy w' none) : Below w.heap.size w w' := ⟨h.os, h.tape, h.output, h.size, fun i hi => h.block i hi (by simp)⟩
/-- the head of a row has been written -/
def HeadIs (l : List UInt8) (z r i : Nat) : Prop := l.length = z ∧ l.take i = bytesT r i
theorem HeadIs.step {l : List UInt8} {z r i : Nat} (h : HeadIs l z r i) (hi : i < z) (c : UInt8) (hc : (if r.testBit i = true then (49 : UInt8) else 48) = c) : HeadIs (l.set i c) z r (i + 1) := by
  refine ⟨by rw [List.length_set]; exact h.1, ?_⟩
  rw [bytesT_succ, ← h.2, hc, List.take_succ_eq_append_getElem (by rw [List.length_set]; have := h.1; omega)]
  rw [List.take_set_of_le (Nat.le_refl _)]
  simp
set_option maxRecDepth 100000 in
set_option maxHeartbeats 1000000 in
theorem texts_any (v : Value) (n : Nat) (rs : List Nat) (z : Nat) (w : World) (hr : Rd w 1 v n (u64s rs)) (hn : n ≤ 100) (hz : z ≤ 64) (hrs : ∀ r ∈ rs, r < 18446744073709551616) :
    Calls Tryz.prog 97 #[v, .int .i64 z] w fun e w' => ∃ v', e = .returned v' ∧ w'.ownsRow w.heap.size 9 1 v' n ((rs.map (textN z)).map .string) ∧ Below w.heap.size w w' := by
  have hl : rs.length = n := by have := hr.len; simpa [u64s] using this
  have HRS := Lib.hid hrs
  have HL := Lib.hid hl
  obtain ⟨A, c, rfl, h1, h2, h3, h4⟩ := hr
  have H4 := Lib.hid h4
  clear h3 h4 hrs hl
  obtain ⟨i8, hi8, hz8, hs8, hb8⟩ := info_parts info_u8
  have HI := Lib.hid hi8
  have HZ8 := Lib.hid hz8
  have HS8 := Lib.hid hs8
  have HB8 := Lib.hid hb8
  clear hi8 hz8 hs8 hb8
  go_enter Tryz.func97, Tryz.ntmps97
  go_wp2_with fail
  go_loopw [5, 12] (fun v i wr => ∃ k : Nat, k ≤ n ∧ i = .int .i64 k ∧ wr.ownsRow w.heap.size 9 1 v k (((rs.take k).map (textN z)).map .string) ∧ Below w.heap.size w wr) (fun _ i _ => n - (intOf i).toNat)
  case atStart => exact ⟨0, by omega, rfl, by simpa using World.ownsRow_nil _ _ _ _, Below.refl _ _⟩
  case round =>
    obtain ⟨k, hk, rfl, hown, hbel⟩ := hrel
    by_cases hlt : k < n
    · obtain ⟨b, off, rfl, hc⟩ := H4.out (by omega)
      obtain ⟨r, hrk⟩ : ∃ r, rs[k]? = some r := ⟨rs[k]'(by rw [HL.out]; exact hlt), List.getElem?_eq_getElem _⟩
      have hcell : wr.cell? ⟨b, off + k, none⟩ = some (.int .u64 (r : Int)) := cell_below hbel _ _ (hc k (.int .u64 (r : Int)) (by simp [u64s, hrk]))
      have hr64 := HRS.out r (List.mem_of_getElem? hrk)
      have hsize := hbel.size
      have HT : Hid (((rs.take (k + 1)).map (textN z)).map Value.string = ((rs.take k).map (textN z)).map Value.string ++ [.string (textN z r)]) := by
        have e : rs[k]'(by rw [HL.out]; exact hlt) = r := by rw [List.getElem?_eq_getElem (by rw [HL.out]; exact hlt)] at hrk; simpa using hrk
        show _ = _
        rw [List.take_succ_eq_append_getElem (by rw [HL.out]; exact hlt), List.map_append, List.map_append, e]; rfl
      clear hrk hc
      obtain ⟨w5, hw5⟩ : ∃ w5, w5 = wr := ⟨_, rfl⟩
      rw [← hw5] at hown hbel hcell hsize ⊢
      clear hw5
      go_wp2_with (at_make; refine wpList_make_full _ rfl _ _ 79 rfl w5.heap.size 5 i8 (.int .u8 0) 1 Tryz.underlying79 HI.out HZ8.out HS8.out .i64 .i64 _ _ z rfl rfl rfl rfl (by rw [HB8.out]; omega) (by unfold maxLen; omega) (Nat.le_refl _) ?_; intro w6 hown6 hg6)
      rw [made_u8] at hown6
      have hbel6 : Below w5.heap.size w5 w6 := below_grown0 hg6
      generalize hG : w5.heap.size = g at *
      have HG := Lib.hid hG
      clear hG
      go_loopw [20] (fun i wr => ∃ (k2 : Nat) (l : List UInt8), k2 ≤ z ∧ i = .int .i64 k2 ∧ wr.ownsRow g 5 1 (.slice (some ⟨g, 0, none⟩) z z) z (u8s l) ∧ Hid (HeadIs l z r k2) ∧ Below g w5 wr) (fun i _ => z - (intOf i).toNat)
      case atStart => exact ⟨0, _, by omega, rfl, hown6, ⟨by simp, by simp [bytesT]⟩, hbel6⟩
      case round =>
        obtain ⟨k2, l, hk2, rfl, hownb, HH, hbel2⟩ := hrel
        by_cases hlt2 : k2 < z
        · have HB := Lib.hid (shr_and r k2 hr64)
          have hfz := hownb.frozenAt k2
          have hc2 := own_cell_u8 hownb k2 hlt2
          generalize l[k2]?.getD 0 = c2 at hc2
          cases ht : r.testBit k2
          · have hbb : bits .and .u64 ((r : Int) / 2 ^ k2) 1 = 0 := by rw [HB.out, ht]; rfl
            go_wp2_with fail
            go_roundw
            case rel => exact ⟨k2 + 1, l.set k2 48, by omega, by go_num, own_set_u8 hownb k2 48, HH.out.step hlt2 48 (by rw [ht]; rfl), hbel2.setCell (by simp) _⟩
            case measure => simp [intOf]; omega
          · have hbb : bits .and .u64 ((r : Int) / 2 ^ k2) 1 = 1 := by rw [HB.out, ht]; rfl
            go_wp2_with fail
            go_roundw
            case rel => exact ⟨k2 + 1, l.set k2 49, by omega, by go_num, own_set_u8 hownb k2 49, HH.out.step hlt2 49 (by rw [ht]; rfl), hbel2.setCell (by simp) _⟩
            case measure => simp [intOf]; omega
        · obtain rfl : k2 = z := by omega
          have hown2 : wr.ownsRow w.heap.size 9 1 _ k _ := own_below hown (by rw [HG.out]; exact hbel2)
          have hl2 : (bytesT r k2) = l := by have := HH.out.2; rw [List.take_of_length_le (by rw [HH.out.1]; exact Nat.le_refl _)] at this; exact this.symm
          have hcv := own_str (P := Tryz.prog) (src := 79) (dst := 9) Tryz.underlying79 Tryz.underlying5 Tryz.underlying9 hownb
          rw [← hl2] at hcv
          have HPB : Hid ((⟨(bytesT r k2).toArray⟩ : ByteArray) = textN k2 r) := rfl
          rw [HPB.out] at hcv
          have hsz2 : g ≤ wr.heap.size := by have := hbel2.size; rw [HG.out] at this; exact this
          have hsz3 : w.heap.size ≤ wr.heap.size := Nat.le_trans hsize hsz2
          have hbel3 : Below w.heap.size w wr := hbel.trans (hbel2.mono hsize)
          clear hownb hown hbel2 hl2 hown6 hg6 hbel6
          go_wp2_with (at_builtin; refine app w.heap.size rfl _ _ 26 9 (.string ⟨#[]⟩) 1 16 rfl Tryz.underlying26 info_str rfl (by decide) (by decide) _ _ _ hown2 _ 1 rfl rfl rfl (by simp [Value.oneCell']) hsz3 (by omega) ?_; intro v1 w1 hown1 hg1 hat)
          go_roundw
          case rel => exact ⟨k + 1, by omega, by go_num, by rw [HT.out]; simpa using hown1, hbel3.grown hg1 hsz3 (fun j hj => (own_lt hown2 hj).1)⟩
          case measure => simp [intOf]; omega
    · obtain rfl : k = n := by omega
      have HTK : Hid (rs.take k = rs) := List.take_of_length_le (by rw [HL.out]; exact Nat.le_refl _)
      go_wp2_with fail
      go_ret
      exact ⟨_, rfl, by rw [HTK.out] at hown; exact hown, hbel⟩
end Go.Proofs.YtedpnjbbcfiheaaGreatDoor

import Derived.Test.YtedpnjbbcfiheaaGreatDoorFLB01
import Derived.Test.YtedpnjbbcfiheaaGreatDoorShelf
import Derived.Test.YtedpnjbbcfiheaaGreatDoorFLB02
import Derived.Lib.IndexAny
import Derived.Deep.DeepCutAuto
import Derived.Deep.CutBlock
import Derived.Deep.LoopGhost
import Derived.StillTailTactics
set_option linter.unusedSimpArgs false
set_option linter.unusedSectionVars false
set_option linter.unusedVariables false
/- Walks of small functions: Out, in, isShort, short, Bits (of both), whole. -/
set_option linter.unusedVariables false
namespace Go.Proofs.YtedpnjbbcfiheaaGreatDoor
open Go.RowKit Go.Sc

def outB (n lo hi : Int) : Bool := decide (n < lo) || decide (hi < n)
theorem outB_true {n lo hi : Int} : outB n lo hi = true ↔ n < lo ∨ hi < n := by simp [outB]
theorem outB_false {n lo hi : Int} : outB n lo hi = false ↔ lo ≤ n ∧ n ≤ hi := by simp [outB]
theorem Out_any (n lo hi : Int) (w : World) : Calls Tryz.prog 124 #[.int .i64 n, .int .i64 lo, .int .i64 hi] w fun e w' => e = .returned (.bool (outB n lo hi)) ∧ w = w' := by
  go_enter Tryz.func124, Tryz.ntmps124
  go_wp2
  all_goals go_ret
  all_goals exact ⟨ret_bool (by simp [outB, *]), rfl⟩
theorem in_any (n lo hi : Int) (w : World) : Calls Tryz.prog 79 #[.int .i64 n, .int .i64 lo, .int .i64 hi] w fun e w' => e = .returned (.bool (!outB n lo hi)) ∧ w = w' := by
  go_enter Tryz.func79, Tryz.ntmps79
  go_wp2
  all_goals go_ret
  all_goals exact ⟨ret_bool (by rw [Bool.eq_iff_iff]; simp [outB]; omega), rfl⟩
theorem isShort_any (k : Int) (w : World) : Calls Tryz.prog 76 #[.int .i64 k] w fun e w' => e = .returned (.bool (!outB k 3 5)) ∧ w = w' := by
  go_enter Tryz.func76, Tryz.ntmps76
  go_wp2_with (go_at_call 124; refine (Out_any _ _ _ _).mono ?_; rintro e w' ⟨rfl, rfl⟩)
  go_ret
  exact ⟨rfl, rfl⟩
theorem short_any (k : Int) (w : World) : Calls Tryz.prog 80 #[.int .i64 k] w fun e w' => e = .returned (.bool (!outB k 3 5)) ∧ w = w' := by
  go_enter Tryz.func80, Tryz.ntmps80
  go_wp2_with (go_at_call 79; refine (in_any _ _ _ _).mono ?_; rintro e w' ⟨rfl, rfl⟩)
  go_ret
  exact ⟨rfl, rfl⟩
theorem dropWhile_empty {α : Type} (p : α → Bool) (l : List α) : (l.dropWhile p).isEmpty = l.all p := by
  induction l with
  | nil => rfl
  | cons x l ih => cases h : p x <;> simp [List.dropWhile_cons, h, ih]
theorem all_dropWhile {α : Type} (p : α → Bool) (l : List α) : (l.dropWhile p).all p = l.all p := by
  induction l with
  | nil => rfl
  | cons x l ih => cases h : p x <;> simp [List.dropWhile_cons, h, ih]
theorem trim01 (s : ByteArray) : (Lib.trimS s.data.toList [48, 49]).isEmpty = bits01 s := by
  have h : ∀ l : List UInt8, (Lib.trimS l [48, 49]).isEmpty = l.all fun c => [48, 49].contains c := by
    intro l
    simp only [Lib.trimS, Lib.trimLeftS, Lib.trimRightS]
    rw [dropWhile_empty, List.all_reverse, all_dropWhile, List.all_reverse]
  rw [h, bits01]
  congr 1
  funext c
  simp [Bool.beq_eq_decide_eq]
theorem Bits_any (s : ByteArray) (w : World) (hs : s.size ≤ 9223372036854775807) : Calls Tryz.prog 160 #[.string s] w fun e w' => e = .returned (.bool (bits01 s)) ∧ Below w.heap.size w w' := by
  go_enter Tryz.func160, Tryz.ntmps160
  go_wp2_with fail
  refine (Any.strings_Trim_laid Tryz.lays160 (by kernel_rfl) s ⟨#[48, 49]⟩ w hs (by decide) (by intro j b h; match j, h with | 0, h => (simp at h; subst h; decide) | 1, h => (simp at h; subst h; decide) | j + 2, h => simp at h)).mono ?_
  rintro e w' ⟨rfl, hb⟩
  have ht := Lib.hid (trim01 s)
  go_wp2
  go_ret
  exact ⟨ret_bool ht.out, hb⟩
theorem whole_wrap (n : Nat) (h : n ≤ 64) : IntKind.u64.wrap (IntKind.u64.wrap (2 ^ n) - 1) = 2 ^ n - 1 := by
  have hall : ∀ m, m < 65 → IntKind.u64.wrap (IntKind.u64.wrap (2 ^ m) - 1) = 2 ^ m - 1 := by decide
  exact hall n (by omega)
def onesN (long : Int) : Nat := 2 ^ long.toNat - 1
theorem ones_cast (long : Int) : ((2 : Int) ^ long.toNat - 1) = ((onesN long : Nat) : Int) := by
  unfold onesN
  rw [Int.natCast_sub (Nat.two_pow_pos _)]
  simp
theorem ones_lt (long : Int) (h : long ≤ 64) : onesN long < 18446744073709551616 := by
  unfold onesN
  have : 2 ^ long.toNat ≤ 2 ^ 64 := Nat.pow_le_pow_right (by decide) (by omega)
  simp at this
  have := Nat.two_pow_pos long.toNat
  omega
theorem whole_any (n : Int) (h0 : 0 ≤ n) (h1 : n ≤ 64) (w : World) : Calls Tryz.prog 59 #[.int .i64 n] w fun e w' => e = .returned (.int .u64 ((onesN n : Nat) : Int)) ∧ w = w' := by
  go_enter Tryz.func59, Tryz.ntmps59
  go_wp2
  go_ret
  exact ⟨ret_int (by rw [← ones_cast]; exact whole_wrap _ (by omega)), rfl⟩
def onlyB (s some : ByteArray) : Bool := s.data.toList.all fun c => some.data.toList.contains c
def onlyTo (s some : ByteArray) (k : Nat) : Prop := (s.data.toList.take k).all (fun c => some.data.toList.contains c) = true
theorem onlyTo_succ {s some : ByteArray} {k : Nat} (h : onlyTo s some k) (hk : k < s.size) (hi : 0 ≤ Lib.indexByte some.data.toList (s[k]'hk)) : onlyTo s some (k + 1) := by
  unfold onlyTo at *
  have hl : k < s.data.toList.length := by simpa using hk
  rw [List.take_succ_eq_append_getElem hl, List.all_append, h]
  have : s.data.toList[k] = s[k]'hk := rfl
  rw [this]
  simp only [List.all_cons, List.all_nil, Bool.and_true, Bool.true_and]
  rw [Lib.contains_iff_indexByte]
  simpa using hi
theorem only_no {s some : ByteArray} {k : Nat} (hk : k < s.size) (hi : Lib.indexByte some.data.toList (s[k]'hk) < 0) : onlyB s some = false := by
  unfold onlyB
  rw [List.all_eq_false]
  refine ⟨s[k]'hk, ?_, ?_⟩
  · have : s[k]'hk = s.data.toList[k]'(by simpa using hk) := rfl
    rw [this]; exact List.getElem_mem _
  · rw [Lib.contains_iff_indexByte]
    simp
    omega
theorem only_any (s some : ByteArray) (w : World) (hs : s.size ≤ 9223372036854775807) : Calls Tryz.prog 164 #[.string s, .string some] w fun e w' => e = .returned (.bool (onlyB s some)) ∧ w = w' := by
  go_enter Tryz.func164, Tryz.ntmps164
  go_wp2
  go_loop [8] (fun i => ∃ k : Nat, k ≤ s.size ∧ i = .int .i64 k ∧ onlyTo s some k) (fun i => s.size - (intOf i).toNat)
  case atStart => exact ⟨0, by omega, rfl, by simp [onlyTo]⟩
  case round =>
    obtain ⟨k, hk, rfl, hall⟩ := hrel
    have HA := Lib.hid hall
    clear hall
    by_cases hlt : k < s.size
    · go_wp2_with (go_at_call 199; refine (Tryz.strings_IndexByte _ _ _).mono ?_; rintro e w' ⟨rfl, rfl⟩)
      · have hi : Lib.indexByte some.data.toList (s[k]'hlt) < 0 := by assumption
        go_ret
        exact ⟨ret_bool (only_no hlt hi).symm, rfl⟩
      · have hi : 0 ≤ Lib.indexByte some.data.toList (s[k]'hlt) := by assumption
        go_round
        case rel => exact ⟨k + 1, by omega, by go_num, onlyTo_succ HA.out hlt hi⟩
        case measure => simp [intOf]; omega
    · go_wp2
      go_ret
      have := HA.out
      rw [onlyTo, List.take_of_length_le (by simp; omega)] at this
      exact ⟨ret_bool this.symm, rfl⟩
theorem only01 (s : ByteArray) : onlyB s ⟨#[48, 49]⟩ = bits01 s := by
  unfold onlyB bits01
  congr 1
  funext c
  simp [Bool.beq_eq_decide_eq]
theorem rBits_any (s : ByteArray) (w : World) (hs : s.size ≤ 9223372036854775807) : Calls Tryz.prog 117 #[.string s] w fun e w' => e = .returned (.bool (bits01 s)) ∧ w = w' := by
  have ht := Lib.hid (only01 s)
  go_enter Tryz.func117, Tryz.ntmps117
  go_wp2_with fail
  refine (only_any s _ _ hs).mono ?_
  rintro e w' ⟨rfl, rfl⟩
  go_wp2
  go_ret
  exact ⟨ret_bool ht.out, rfl⟩
end Go.Proofs.YtedpnjbbcfiheaaGreatDoor

/- Walks of rows and with. -/
set_option linter.unusedVariables false
namespace Go.Proofs.YtedpnjbbcfiheaaGreatDoor
open Go.RowKit Go.Sc
theorem info_u64 : (Tryz.prog.info? 73).map (fun i => (i.zero, i.size, i.bytes)) = some (some (.int .u64 0), 1, 8) := by kernel_rfl
def rowsN (ss : List ByteArray) : List Nat := ss.map fun s => rowN s.data.toList
def okTest (ss : List ByteArray) : Prop := ∀ s ∈ ss, s.size ≤ 64 ∧ bits01 s = true
set_option maxRecDepth 100000 in
theorem rows_any (v : Value) (n : Nat) (ss : List ByteArray) (w : World) (hr : Rd w 1 v n (ss.map .string)) (hb : n ≤ 100) (hs : okTest ss) :
    Calls Tryz.prog 95 #[v] w fun e w' => ∃ v', e = .returned v' ∧ w'.ownsRow w.heap.size 73 1 v' n (u64s (rowsN ss)) ∧ Below w.heap.size w w' := by
  obtain ⟨A, c, rfl, h1, h2, h3, h4⟩ := hr
  have hl : ss.length = n := by simpa using h3
  go_enter Tryz.func95, Tryz.ntmps95
  go_wp2
  go_loopw [3, 10] (fun v i wr => ∃ k : Nat, k ≤ n ∧ i = .int .i64 k ∧ wr.ownsRow w.heap.size 73 1 v k (u64s (rowsN (ss.take k))) ∧ Below w.heap.size w wr) (fun _ i _ => n - (intOf i).toNat)
  case atStart => exact ⟨0, by omega, rfl, by simpa [u64s, rowsN] using World.ownsRow_nil _ _ _ _, Below.refl _ _⟩
  case round =>
    obtain ⟨k, hk, rfl, hown, hbel⟩ := hrel
    by_cases hlt : k < n
    · obtain ⟨b, off, rfl, hc⟩ := h4 (by omega)
      obtain ⟨s, hsk⟩ : ∃ s, ss[k]? = some s := ⟨ss[k]'(by omega), List.getElem?_eq_getElem _⟩
      have hcell : wr.cell? ⟨b, off + k, none⟩ = some (.string s) := cell_below hbel _ _ (hc k _ (by simp [hsk]))
      have hsz : s.size ≤ 64 := (hs s (List.mem_of_getElem? hsk)).1
      have hbt := Lib.hid (hs s (List.mem_of_getElem? hsk)).2
      have hsize := hbel.size
      have HT : Hid (rowsN (ss.take (k + 1)) = rowsN (ss.take k) ++ [rowN s.data.toList]) := by
        have e : ss[k]'(by omega) = s := by rw [List.getElem?_eq_getElem (by omega)] at hsk; simpa using hsk
        show rowsN (ss.take (k + 1)) = _
        rw [List.take_succ_eq_append_getElem (by omega), rowsN, List.map_append, e]; rfl
      clear hsk hc
      go_wp2
      go_loop [6, 16] (fun x j => ∃ i : Nat, i ≤ s.size ∧ j = .int .i64 i ∧ x = .int .u64 ((rowN (s.data.toList.take i) : Nat) : Int)) (fun _ j => s.size - (intOf j).toNat)
      case atStart => exact ⟨0, by omega, rfl, rfl⟩
      case round =>
        obtain ⟨i, hi, rfl, rfl⟩ := hrel
        by_cases hil : i < s.size
        · have hbb := bits01_at hbt.out i hil
          have hq := rowN_lt (s.data.toList.take i)
          have hql : (s.data.toList.take i).length = i := by simp; omega
          have hb1 : 48 ≤ ((s[i]'hil).toNat : Int) := by rcases hbb with h | h <;> rw [h] <;> decide
          have hb2 : ((s[i]'hil).toNat : Int) ≤ 49 := by rcases hbb with h | h <;> rw [h] <;> decide
          have HO := Lib.hid (or_step (rowN (s.data.toList.take i)) i (s[i]'hil) (by rw [hql] at hq; exact hq) (by omega) hbb)
          have HN : Hid (rowN (s.data.toList.take (i + 1)) = rowN (s.data.toList.take i) + bit1 (s[i]'hil) * 2 ^ i) := by
            show rowN _ = _
            rw [take_snoc s i hil, rowN_snoc, hql]
          clear hbb hq hql
          generalize rowN (s.data.toList.take i) = q at *
          go_wp2_with fail
          go_roundw
          case rel => exact ⟨i + 1, by omega, by go_num, by rw [HO.out, HN.out]⟩
          case measure => simp [intOf]; omega
        · have HI : Hid (s.data.toList.take i = s.data.toList) := List.take_of_length_le (by simp; omega)
          generalize hq : rowN (s.data.toList.take i) = q at *
          have HQ : Hid (q = rowN s.data.toList) := by show q = _; rw [← hq, HI.out]
          clear hq
          go_wp2_with (at_builtin; refine app w.heap.size rfl _ _ 74 73 (.int .u64 0) 1 8 rfl Tryz.underlying74 info_u64 rfl (by decide) (by decide) _ _ _ hown _ 1 rfl rfl rfl (by simp [Value.oneCell']) hsize (by omega) ?_; intro v1 w1 hown1 hg1 hat)
          go_roundw
          case rel => exact ⟨k + 1, by omega, by go_num, by rw [HT.out, ← HQ.out]; simpa [u64s] using hown1, hbel.grown hg1 hsize (fun j hj => (own_lt hown hj).1)⟩
          case measure => simp [intOf]; omega
    · obtain rfl : k = n := by omega
      have HL : Hid (ss.take k = ss) := List.take_of_length_le (by omega)
      go_wp2
      go_ret
      exact ⟨_, rfl, by rw [HL.out] at hown; exact hown, hbel⟩

/-! ### with -/
def atN (rs : List Nat) (i : Int) : Nat := rs[i.toNat]?.getD 0
def valN (rs : List Nat) (k : Int) (ns : List Int) (ones : Nat) : Nat :=
  if k = 1 then 0 else if k = 2 ∨ k = 6 then ones
  else if k = 3 then ns.foldl (fun v n => v &&& atN rs n) (atN rs (ns[0]?.getD 0))
  else if k = 4 then ns.foldl (fun v n => v ||| atN rs n) (atN rs (ns[0]?.getD 0))
  else atN rs (ns[0]?.getD 0)
def putN (rs : List Nat) (ns : List Int) (x : Nat) : List Nat := ns.foldl (fun r n => r.set n.toNat x) rs
def withN (rs : List Nat) (k : Int) (ns : List Int) (ones : Nat) : List Nat := putN rs ns (valN rs k ns ones)
theorem putN_len (rs : List Nat) (ns : List Int) (x : Nat) : (putN rs ns x).length = rs.length := by
  unfold putN
  induction ns generalizing rs with
  | nil => rfl
  | cons n ns ih => rw [List.foldl_cons, ih, List.length_set]
set_option maxRecDepth 100000 in
set_option maxHeartbeats 2000000 in
theorem with_any (base g len cap : Nat) (rs : List Nat) (k : Int) (nv : Value) (m : Nat) (ns : List Int) (ones : Nat) (w : World)
    (hown : w.ownsRow base 73 1 (.slice (some ⟨g, 0, none⟩) len cap) len (u64s rs)) (hn : Rd w 1 nv m (ns.map (.int .i64))) (hm : 1 ≤ m)
    (hns : ∀ n ∈ ns, 0 ≤ n ∧ n < len) (hnv : ∀ A n c, nv = .slice (some A) n c → A.block ≠ g) (hlen : len ≤ 100)
    (hrs : ∀ r ∈ rs, r < 18446744073709551616) (ho : ones < 18446744073709551616) (hm6 : m ≤ 6) :
    Calls Tryz.prog 96 #[.slice (some ⟨g, 0, none⟩) len cap, .agg #[.int .i64 k, nv], .int .u64 (ones : Int)] w fun e w' => e = .returned (.tuple #[]) ∧ w'.ownsRow base 73 1 (.slice (some ⟨g, 0, none⟩) len cap) len (u64s (withN rs k ns ones)) ∧ w.grownBy w' (some g) := by
  obtain ⟨A, c, rfl, h1, h2, h3, h4⟩ := hn
  obtain ⟨b, off, rfl, hc⟩ := h4 (by omega)
  have hbg : b ≠ g := hnv _ _ _ rfl
  have hl : ns.length = m := by simpa using h3
  have hrl : rs.length = len := by have := hown.1; rw [u64s_len] at this; omega
  have hn0 : ns[0]?.getD 0 = ns[0]'(by omega) := by simp [List.getElem?_eq_getElem (show 0 < ns.length by omega)]
  obtain ⟨n0, n1⟩ := hns (ns[0]?.getD 0) (by rw [hn0]; exact List.getElem_mem _)
  have hc0 : w.cell? ⟨b, off, none⟩ = some (.int .i64 (ns[0]?.getD 0)) := by
    have := hc 0 (.int .i64 (ns[0]?.getD 0)) (by simp [List.getElem?_eq_getElem (show 0 < ns.length by omega)])
    simpa using this
  have hr0 := own_cell_u64 hown (ns[0]?.getD 0).toNat (by omega)
  have hblt : b < w.heap.size := World.block_lt_of_cell? _ _ hc0
  have hglt := (own_lt hown rfl).2
  obtain ⟨i0, hi0⟩ : ∃ i0, i0 = ns[0]?.getD 0 := ⟨_, rfl⟩
  rw [← hi0] at n0 n1 hc0 hr0
  obtain ⟨r0, hr00⟩ : ∃ r0, r0 = atN rs i0 := ⟨_, rfl⟩
  replace hr0 : w.cell? ⟨g, i0.toNat, none⟩ = some (.int .u64 ((atN rs i0 : Nat) : Int)) := hr0
  rw [← hr00] at hr0
  have HI0 := Lib.hid hi0
  have HR0 := Lib.hid hr00
  clear hi0 hr00 hn0
  go_enter Tryz.func96, Tryz.ntmps96
  go_upto_block 0 with fail
  go_cut [6] (fun v wx => v = .int .u64 ((valN rs k ns ones : Nat) : Int) ∧ wx = w.alloc (.cells #[.int .i64 k, .slice (some ⟨b, off, none⟩) m c] 60))
  case first =>
    have hcw : ∀ j, j < m → (w.alloc (.cells #[.int .i64 k, .slice (some ⟨b, off, none⟩) m c] 60)).cell? ⟨b, off + j, none⟩ = some (.int .i64 (ns[j]?.getD 0)) := fun j hj => by
      rw [World.cell?_alloc_past _ _ _ hblt]
      exact hc j _ (getD_map_int _ _ _ (by omega))
    have hrw : ∀ j, j < len → (w.alloc (.cells #[.int .i64 k, .slice (some ⟨b, off, none⟩) m c] 60)).cell? ⟨g, j, none⟩ = some (.int .u64 ((rs[j]?.getD 0 : Nat) : Int)) := fun j hj => by
      rw [World.cell?_alloc_past _ _ _ hglt]
      exact own_cell_u64 hown j hj
    have hr64 : ∀ i, atN rs i < 18446744073709551616 := fun i => by
      unfold atN
      generalize i.toNat = j
      cases h : rs[j]? with
      | none => simp
      | some r => exact hrs r (List.mem_of_getElem? h)
    have hnj : ∀ j, j < m → 0 ≤ ns[j]?.getD 0 ∧ ns[j]?.getD 0 < len := fun j hj => by
      rw [List.getElem?_eq_getElem (by omega)]
      exact hns _ (List.getElem_mem _)
    have HV : Hid (valN rs k ns ones = if k = 1 then 0 else if k = 2 ∨ k = 6 then ones
      else if k = 3 then ns.foldl (fun v n => v &&& atN rs n) r0
      else if k = 4 then ns.foldl (fun v n => v ||| atN rs n) r0 else r0) := by
      show valN rs k ns ones = _
      rw [HR0.out, HI0.out, valN]
    have hr064 : r0 < 18446744073709551616 := by rw [HR0.out]; exact hr64 _
    have hW1 : (w.alloc (.cells #[.int .i64 k, .slice (some ⟨b, off, none⟩) m c] 60)).cell? ⟨w.heap.size, 1, none⟩ = some (.slice (some ⟨b, off, none⟩) m c) := by
      rw [World.cell?_alloc_at _ _ _ _ rfl]; rfl
    clear hown hc hrs hns
    generalize (w.alloc (.cells #[.int .i64 k, .slice (some ⟨b, off, none⟩) m c] 60)) = W at *
    have HC := Lib.hid hcw
    have HR := Lib.hid hrw
    have H64 := Lib.hid hr64
    have HNJ := Lib.hid hnj
    clear hcw hrw hr64 hnj
    have e : k = 1 ∨ k = 2 ∨ k = 6 ∨ k = 3 ∨ k = 4 ∨ (k ≠ 1 ∧ k ≠ 2 ∧ k ≠ 6 ∧ k ≠ 3 ∧ k ≠ 4) := by omega
    rcases e with rfl | rfl | rfl | rfl | rfl | ⟨k1, k2, k6, k3, k4⟩
    · go_wp2_with fail
      go_meet
      exact ⟨by rw [HV.out]; rfl, rfl⟩
    · go_wp2_with fail
      go_meet
      exact ⟨by rw [HV.out]; rfl, rfl⟩
    · go_wp2_with fail
      go_meet
      exact ⟨by rw [HV.out]; rfl, rfl⟩
    · have HV3 : Hid (valN rs 3 ns ones = ns.foldl (fun v n => v &&& atN rs n) r0) := by show _ = _; rw [HV.out]; rfl
      clear HV
      go_wp2_with fail
      go_loop [6, 33] (fun v i => ∃ j q : Nat, j ≤ m ∧ i = .int .i64 j ∧ v = .int .u64 (q : Int) ∧ q < 18446744073709551616 ∧ Hid (q = (ns.take j).foldl (fun v n => v &&& atN rs n) r0)) (fun _ i => m - (intOf i).toNat)
      case atStart => exact ⟨0, r0, by omega, rfl, rfl, hr064, rfl⟩
      case round =>
        obtain ⟨j, q, hj, rfl, rfl, hq, HQ⟩ := hrel
        by_cases hlt : j < m
        · have e1 := HC.out j hlt
          obtain ⟨e2, e3⟩ := HNJ.out j hlt
          have HJ : Hid (ns.take (j + 1) = ns.take j ++ [ns[j]?.getD 0]) := by
            show _ = _
            rw [List.take_succ_eq_append_getElem (by omega), List.getElem?_eq_getElem (by omega)]; rfl
          generalize ns[j]?.getD 0 = nj at *
          have e4 : W.cell? ⟨g, nj.toNat, none⟩ = some (.int .u64 ((atN rs nj : Nat) : Int)) := HR.out nj.toNat (by omega)
          have e5 := H64.out nj
          have HX : Hid (bits .and .u64 (q : Int) ((atN rs nj : Nat) : Int) = ((q &&& atN rs nj : Nat) : Int)) := u64_and_nat _ _ hq e5
          have HL : Hid (q &&& atN rs nj < 18446744073709551616) := Nat.lt_of_le_of_lt Nat.and_le_left hq
          have HF : Hid (q &&& atN rs nj = (ns.take (j + 1)).foldl (fun v n => v &&& atN rs n) r0) := by
            show _ = _
            rw [HJ.out, List.foldl_append, ← HQ.out]; rfl
          generalize atN rs nj = rj at *
          go_wp2_with fail
          go_round
          case rel => exact ⟨j + 1, q &&& rj, by omega, by go_num, by rw [HX.out], HL.out, HF⟩
          case measure => simp [intOf]; omega
        · obtain rfl : j = m := by omega
          have HF : Hid (q = valN rs 3 ns ones) := by
            show q = _
            rw [HV3.out, HQ.out, List.take_of_length_le (by omega)]
          go_wp2_with fail
          go_meet
          exact ⟨by rw [← HF.out], rfl⟩
    · have HV3 : Hid (valN rs 4 ns ones = ns.foldl (fun v n => v ||| atN rs n) r0) := by show _ = _; rw [HV.out]; rfl
      clear HV
      go_wp2_with fail
      go_loop [6, 49] (fun v i => ∃ j q : Nat, j ≤ m ∧ i = .int .i64 j ∧ v = .int .u64 (q : Int) ∧ q < 18446744073709551616 ∧ Hid (q = (ns.take j).foldl (fun v n => v ||| atN rs n) r0)) (fun _ i => m - (intOf i).toNat)
      case atStart => exact ⟨0, r0, by omega, rfl, rfl, hr064, rfl⟩
      case round =>
        obtain ⟨j, q, hj, rfl, rfl, hq, HQ⟩ := hrel
        by_cases hlt : j < m
        · have e1 := HC.out j hlt
          obtain ⟨e2, e3⟩ := HNJ.out j hlt
          have HJ : Hid (ns.take (j + 1) = ns.take j ++ [ns[j]?.getD 0]) := by
            show _ = _
            rw [List.take_succ_eq_append_getElem (by omega), List.getElem?_eq_getElem (by omega)]; rfl
          generalize ns[j]?.getD 0 = nj at *
          have e4 : W.cell? ⟨g, nj.toNat, none⟩ = some (.int .u64 ((atN rs nj : Nat) : Int)) := HR.out nj.toNat (by omega)
          have e5 := H64.out nj
          have HX : Hid (bits .or .u64 (q : Int) ((atN rs nj : Nat) : Int) = ((q ||| atN rs nj : Nat) : Int)) := u64_or_nat _ _ hq e5
          have HL : Hid (q ||| atN rs nj < 18446744073709551616) := Nat.or_lt_two_pow (n := 64) hq e5
          have HF : Hid (q ||| atN rs nj = (ns.take (j + 1)).foldl (fun v n => v ||| atN rs n) r0) := by
            show _ = _
            rw [HJ.out, List.foldl_append, ← HQ.out]; rfl
          generalize atN rs nj = rj at *
          go_wp2_with fail
          go_round
          case rel => exact ⟨j + 1, q ||| rj, by omega, by go_num, by rw [HX.out], HL.out, HF⟩
          case measure => simp [intOf]; omega
        · obtain rfl : j = m := by omega
          have HF : Hid (q = valN rs 4 ns ones) := by
            show q = _
            rw [HV3.out, HQ.out, List.take_of_length_le (by omega)]
          go_wp2_with fail
          go_meet
          exact ⟨by rw [← HF.out], rfl⟩
    · have HV5 : Hid (valN rs k ns ones = r0) := by show _ = _; rw [HV.out]; simp [k1, k2, k6, k3, k4]
      have b1 : (k == 1) = false := by simp [k1]
      have b2 : (k == 2) = false := by simp [k2]
      have b3 : (k == 6) = false := by simp [k6]
      have b4 : (k == 3) = false := by simp [k3]
      have b5 : (k == 4) = false := by simp [k4]
      clear k1 k2 k6 k3 k4
      go_wp2_with fail
      go_meet
      exact ⟨by rw [HV5.out], rfl⟩
  case rest =>
    obtain ⟨rfl, rfl⟩ := hcut
    have hg1 := World.grownBy_alloc w (.cells #[.int .i64 k, .slice (some ⟨b, off, none⟩) m c] 60) (some g)
    have hown1 := hown.alloc (.cells #[.int .i64 k, .slice (some ⟨b, off, none⟩) m c] 60)
    have HE : Hid (putN rs ns (valN rs k ns ones) = withN rs k ns ones) := rfl
    have HC := Lib.hid hc
    have HNS := Lib.hid hns
    generalize valN rs k ns ones = x at *
    clear hc hns hown hrs
    go_wp2_with fail
    go_loopw [63] (fun i wr => ∃ j : Nat, j ≤ m ∧ i = .int .i64 j ∧ wr.ownsRow base 73 1 (.slice (some ⟨g, 0, none⟩) len cap) len (u64s (putN rs (ns.take j) x)) ∧ w.grownBy wr (some g)
      ∧ wr.cell? ⟨w.heap.size, 1, none⟩ = some (.slice (some ⟨b, off, none⟩) m c)) (fun i _ => m - (intOf i).toNat)
    case atStart => exact ⟨0, by omega, rfl, hown1, hg1, by rw [World.cell?_alloc_at _ _ _ _ rfl]; rfl⟩
    case round =>
      obtain ⟨j, hj, rfl, hown2, hg2, hc2⟩ := hrel
      by_cases hlt : j < m
      · have e1 : wr.cell? ⟨b, off + j, none⟩ = some (.int .i64 (ns[j]?.getD 0)) := hg2.cell (HC.out j _ (getD_map_int _ _ _ (by omega))) (by simpa using hbg)
        obtain ⟨e2, e3⟩ : 0 ≤ ns[j]?.getD 0 ∧ ns[j]?.getD 0 < len := by
          rw [List.getElem?_eq_getElem (by omega)]
          exact HNS.out _ (List.getElem_mem _)
        have HJ : Hid (ns.take (j + 1) = ns.take j ++ [ns[j]?.getD 0]) := by
            show _ = _
            rw [List.take_succ_eq_append_getElem (by omega), List.getElem?_eq_getElem (by omega)]; rfl
        generalize ns[j]?.getD 0 = nj at *
        have e4 := own_cell_u64 hown2 nj.toNat (by omega)
        have e5 := fun i => hown2.frozenAt i
        have o2 := own_set_u64 hown2 nj.toNat x
        have HP : Hid ((putN rs (ns.take j) x).set nj.toNat x = putN rs (ns.take (j + 1)) x) := by
          show _ = _
          rw [HJ.out, putN, putN, List.foldl_append]; rfl
        have hgs : w.grownBy (wr.setCell ⟨g, nj.toNat, none⟩ (.int .u64 (x : Int))) (some g) := gb_setCell hg2 (.inl rfl) _
        have hc3 : (wr.setCell ⟨g, nj.toNat, none⟩ (.int .u64 (x : Int))).cell? ⟨w.heap.size, 1, none⟩ = some (.slice (some ⟨b, off, none⟩) m c) :=
          (World.cell?_of_block (w := wr) (Below.heap_setCell _ _ _ _ (by show w.heap.size ≠ g; omega))).trans hc2
        generalize (putN rs (ns.take j) x)[nj.toNat]?.getD 0 = old at *
        go_wp2_with fail
        go_roundw
        case rel => exact ⟨j + 1, by omega, by go_num, by rw [← HP.out]; exact o2, hgs, hc3⟩
        case measure => simp [intOf]; omega
      · obtain rfl : j = m := by omega
        have HT : Hid (ns.take j = ns) := List.take_of_length_le (by omega)
        go_wp2_with fail
        go_end0
        exact ⟨rfl, by rw [← HE.out]; rw [HT.out] at hown2; exact hown2, hg2⟩
end Go.Proofs.YtedpnjbbcfiheaaGreatDoor

/- Walks of respond, detected, masks. -/
set_option linter.unusedVariables false
namespace Go.Proofs.YtedpnjbbcfiheaaGreatDoor
open Go.RowKit Go.Sc
/-- a fault as a value: its kind and its nets -/
def FV (w : World) (v : Value) (k : Int) (ns : List Int) : Prop := ∃ nv, v = .agg #[.int .i64 k, nv] ∧ Rd w 1 nv ns.length (ns.map (.int .i64))
theorem FV.below {w w' : World} {v : Value} {k : Int} {ns : List Int} (h : FV w v k ns) (hb : Below w.heap.size w w') : FV w' v k ns := by
  obtain ⟨nv, rfl, h⟩ := h
  exact ⟨nv, rfl, h.below hb⟩
/-- a right fault for so many nets -/
structure FOk (n : Nat) (k : Int) (ns : List Int) : Prop where
  one : 1 ≤ ns.length
  six : ns.length ≤ 6
  nets : ∀ x ∈ ns, 0 ≤ x ∧ x < n
set_option maxRecDepth 100000 in
theorem respond_any (v fv : Value) (n : Nat) (rs : List Nat) (k : Int) (ns : List Int) (long : Int) (w : World) (hr : Rd w 1 v n (u64s rs)) (hf : FV w fv k ns) (hn1 : 1 ≤ n) (hn : n ≤ 100) (hok : FOk n k ns)
    (hrs : ∀ r ∈ rs, r < 18446744073709551616) (h0 : 0 ≤ long) (h64 : long ≤ 64) :
    Calls Tryz.prog 126 #[v, fv, .int .i64 long] w fun e w' => ∃ v', e = .returned v' ∧ w'.ownsRow w.heap.size 73 1 v' n (u64s (withN rs k ns (onesN long))) ∧ Below w.heap.size w w' := by
  obtain ⟨A, c, rfl, h1, h2, h3, h4⟩ := hr
  obtain ⟨b, off, rfl, hc⟩ := h4 (by omega)
  obtain ⟨nv, rfl, hnv⟩ := hf
  obtain ⟨i0, hi, hz0, hz1, hz2⟩ := info_parts info_u64
  have hbl : Below w.heap.size w (w.alloc (.cells #[.int .i64 k, nv] 60)) := (Below.refl _ _).alloc (Nat.le_refl _) _
  go_enter Tryz.func126, Tryz.ntmps126
  go_wp2_with fail
  refine (Tryz.slices_Clone_f166 i0 _ 1 8 hi hz0 hz1 hz2 rfl (by decide) (fun _ => by kernel_rfl) b off n c (u64s rs) _ (by simpa using h3) (by unfold maxLen; omega) (by omega) (fun j u hu => cell_below hbl _ _ (hc j u hu)) (u64s_one rs)).mono ?_
  rintro e w1 ⟨v1, rfl, hown, hne, hb1⟩
  obtain ⟨g, cap, rfl, hg1, hg2⟩ := hown.form (by omega)
  have hs1 := hb1.size
  simp only [World.size_alloc] at hs1 hg1
  have c0 : w1.cell? ⟨w.heap.size, 0, none⟩ = some (.int .i64 k) := (hb1.cell (p := ⟨w.heap.size, 0, none⟩) (by simp)).trans (by rw [World.cell?_alloc_at _ _ _ _ rfl]; rfl)
  have c1 : w1.cell? ⟨w.heap.size, 1, none⟩ = some nv := (hb1.cell (p := ⟨w.heap.size, 1, none⟩) (by simp)).trans (by rw [World.cell?_alloc_at _ _ _ _ rfl]; rfl)
  have hnv1 := hnv.below (hbl.trans (hb1.mono (by simp)))
  go_wp2_with fail
  have hnvg : ∀ A m c, nv = .slice (some A) m c → A.block ≠ g := fun A m c e => by have := hnv.block_lt (by have := hok.one; omega) (by decide) A m c e; omega
  have hown' := own_mono hown (base' := w.heap.size) (by simp)
  have hol := ones_lt long h64
  have hNG := Lib.hid hnvg
  clear hnvg
  have hb2 : Below w.heap.size w w1.drew := (hbl.trans (hb1.mono (by simp))).drew
  have hs2 : w.heap.size ≤ w1.drew.heap.size := hb2.size
  go_region_with (first | (go_at_call 59; refine (whole_any _ h0 h64 _).mono ?_; rintro e w2 ⟨rfl, rfl⟩) | (go_at_call 96; go_loud (refine (with_any w.heap.size g n cap rs k nv ns.length ns (onesN long) w1.drew hown' hnv1 hok.one hok.nets hNG.out hn hrs hol hok.six).mono ?_); rintro e w2 ⟨rfl, hown2, hg2'⟩))
  all_goals go_wp2
  all_goals go_ret
  all_goals exact ⟨_, rfl, hown2, hb2.grown hg2' hs2 (by intro j hj; simp at hj; omega)⟩

def detN (rs : List Nat) (k : Int) (ns : List Int) (ones : Nat) : Nat := (List.range rs.length).foldl (fun a i => a ||| ((withN rs k ns ones)[i]?.getD 0 ^^^ rs[i]?.getD 0)) 0
theorem valN_lt (rs : List Nat) (k : Int) (ns : List Int) (ones : Nat) (hrs : ∀ r ∈ rs, r < 18446744073709551616) (ho : ones < 18446744073709551616) : valN rs k ns ones < 18446744073709551616 := by
  have h0 : ∀ i, atN rs i < 2 ^ 64 := fun i => by
    unfold atN
    cases h : rs[i.toNat]? with
    | none => simp
    | some r => exact hrs r (List.mem_of_getElem? h)
  have hand : ∀ (l : List Int) (a : Nat), a < 2 ^ 64 → l.foldl (fun v n => v &&& atN rs n) a < 2 ^ 64 := by
    intro l
    induction l with
    | nil => exact fun a h => h
    | cons n l ih => exact fun a h => ih _ (Nat.lt_of_le_of_lt Nat.and_le_left h)
  have hor : ∀ (l : List Int) (a : Nat), a < 2 ^ 64 → l.foldl (fun v n => v ||| atN rs n) a < 2 ^ 64 := by
    intro l
    induction l with
    | nil => exact fun a h => h
    | cons n l ih => exact fun a h => ih _ (Nat.or_lt_two_pow h (h0 n))
  unfold valN
  split
  · decide
  · split
    · exact ho
    · split
      · exact hand _ _ (h0 _)
      · split
        · exact hor _ _ (h0 _)
        · exact h0 _
theorem putN_lt (rs : List Nat) (ns : List Int) (x : Nat) (hrs : ∀ r ∈ rs, r < 18446744073709551616) (hx : x < 18446744073709551616) : ∀ r ∈ putN rs ns x, r < 18446744073709551616 := by
  unfold putN
  induction ns generalizing rs with
  | nil => exact hrs
  | cons n ns ih =>
    rw [List.foldl_cons]
    refine ih _ fun r hr => ?_
    rcases List.mem_or_eq_of_mem_set hr with h | h
    · exact hrs r h
    · rw [h]; exact hx
theorem withN_lt (rs : List Nat) (k : Int) (ns : List Int) (ones : Nat) (hrs : ∀ r ∈ rs, r < 18446744073709551616) (ho : ones < 18446744073709551616) : ∀ r ∈ withN rs k ns ones, r < 18446744073709551616 :=
  putN_lt rs ns _ hrs (valN_lt rs k ns ones hrs ho)
theorem withN_len (rs : List Nat) (k : Int) (ns : List Int) (ones : Nat) : (withN rs k ns ones).length = rs.length := putN_len _ _ _
theorem getD_lt {rs : List Nat} (hrs : ∀ r ∈ rs, r < 18446744073709551616) (i : Nat) : rs[i]?.getD 0 < 18446744073709551616 := by
  cases h : rs[i]? with
  | none => simp
  | some r => exact hrs r (List.mem_of_getElem? h)
set_option maxRecDepth 100000 in
theorem detected_any (v fv : Value) (n : Nat) (rs : List Nat) (k : Int) (ns : List Int) (long : Int) (w : World) (hr : Rd w 1 v n (u64s rs)) (hf : FV w fv k ns) (hn1 : 1 ≤ n) (hn : n ≤ 100) (hok : FOk n k ns)
    (hrs : ∀ r ∈ rs, r < 18446744073709551616) (h0 : 0 ≤ long) (h64 : long ≤ 64) :
    Calls Tryz.prog 111 #[v, fv, .int .i64 long] w fun e w' => e = .returned (.int .u64 ((detN rs k ns (onesN long) : Nat) : Int)) ∧ Below w.heap.size w w' := by
  have hrl : rs.length = n := by have := hr.len; rw [u64s_len] at this; omega
  have hr0 := hr
  obtain ⟨A, c, rfl, h1, h2, h3, h4⟩ := hr
  obtain ⟨b, off, rfl, hc⟩ := h4 (by omega)
  obtain ⟨nv, rfl, hnv⟩ := hf
  have hbl : Below w.heap.size w (w.alloc (.cells #[.int .i64 k, nv] 60)) := (Below.refl _ _).alloc (Nat.le_refl _) _
  have hr1 := hr0.below hbl
  have hf1 : FV (w.alloc (.cells #[.int .i64 k, nv] 60)) (.agg #[.int .i64 k, nv]) k ns := ⟨nv, rfl, Rd.below hnv hbl⟩
  have HR1 := Lib.hid hr1
  have HF1 := Lib.hid hf1
  have HC := Lib.hid hc
  have HRS := Lib.hid hrs
  clear hr0 hr1 hf1 hnv hc h4 hrs
  go_enter Tryz.func111, Tryz.ntmps111
  go_wp2_with fail
  refine (respond_any _ _ n rs k ns long _ HR1.out HF1.out hn1 hn hok HRS.out h0 h64).mono ?_
  rintro e w1 ⟨v1, rfl, hown, hb1⟩
  have hb2 : Below w.heap.size w w1 := hbl.trans (hb1.mono (by simp))
  obtain ⟨g, cap, rfl, hg1, hg2⟩ := hown.form (by omega)
  have HW := Lib.hid (withN_lt rs k ns (onesN long) HRS.out (ones_lt long h64))
  have HD : Hid (detN rs k ns (onesN long) = (List.range n).foldl (fun a i => a ||| ((withN rs k ns (onesN long))[i]?.getD 0 ^^^ rs[i]?.getD 0)) 0) := by show _ = _; rw [← hrl, detN]
  generalize hq : withN rs k ns (onesN long) = qs at *
  clear hq
  have HRL := Lib.hid hrl
  clear hrl
  go_wp2_with fail
  go_loop [7, 15] (fun x i => ∃ j q : Nat, j ≤ n ∧ i = .int .i64 j ∧ x = .int .u64 (q : Int) ∧ q < 18446744073709551616 ∧ Hid (q = (List.range j).foldl (fun a i => a ||| (qs[i]?.getD 0 ^^^ rs[i]?.getD 0)) 0)) (fun _ i => n - (intOf i).toNat)
  case atStart => exact ⟨0, 0, by omega, rfl, rfl, by omega, rfl⟩
  case round =>
    obtain ⟨j, q, hj, rfl, rfl, hq, HQ⟩ := hrel
    by_cases hlt : j < n
    · have e1 := own_cell_u64 hown j hlt
      have e2 : w1.cell? ⟨b, off + j, none⟩ = some (.int .u64 ((rs[j]?.getD 0 : Nat) : Int)) := cell_below hb2 _ _ (HC.out j _ (u64s_at rs j (by rw [HRL.out]; exact hlt)))
      have e3 := getD_lt HW.out j
      have e4 := getD_lt HRS.out j
      have HS : Hid (q ||| (qs[j]?.getD 0 ^^^ rs[j]?.getD 0) = (List.range (j + 1)).foldl (fun a i => a ||| (qs[i]?.getD 0 ^^^ rs[i]?.getD 0)) 0) := by
        show _ = _
        rw [List.range_succ, List.foldl_append, ← HQ.out]; rfl
      generalize qs[j]?.getD 0 = x at *
      generalize rs[j]?.getD 0 = y at *
      have e5 : x ^^^ y < 18446744073709551616 := Nat.xor_lt_two_pow (n := 64) e3 e4
      have HX := Lib.hid (u64_xor_nat x y e3 e4)
      have HY := Lib.hid (u64_or_nat q (x ^^^ y) hq e5)
      have e6 : q ||| (x ^^^ y) < 18446744073709551616 := Nat.or_lt_two_pow (n := 64) hq e5
      go_wp2_with fail
      go_round
      case rel => exact ⟨j + 1, q ||| (x ^^^ y), by omega, by go_num, by rw [HX.out, HY.out], e6, HS⟩
      case measure => simp [intOf]; omega
    · obtain rfl : j = n := by omega
      go_wp2_with fail
      go_ret
      exact ⟨by rw [HD.out, ← HQ.out]; rfl, hb2⟩
end Go.Proofs.YtedpnjbbcfiheaaGreatDoor

/- Walk of masks. -/
set_option linter.unusedVariables false
namespace Go.Proofs.YtedpnjbbcfiheaaGreatDoor
open Go.RowKit Go.Sc
/-- a slice of faults: their kinds and their nets -/
def RdF (w : World) (v : Value) (fs : List (Int × List Int)) : Prop :=
  ∃ A c, v = .slice A fs.length c ∧ fs.length ≤ c ∧ c ≤ maxLen ∧ (0 < fs.length → ∃ b off, A = some ⟨b, off, none⟩ ∧ ∀ j f, fs[j]? = some f → ∃ nv, w.cell? ⟨b, off + j * 2, none⟩ = some (.int .i64 f.1) ∧ w.cell? ⟨b, off + j * 2 + 1, none⟩ = some nv ∧ Rd w 1 nv f.2.length (f.2.map (.int .i64)))
theorem RdF.below {w w' : World} {v : Value} {fs : List (Int × List Int)} (h : RdF w v fs) (hb : Below w.heap.size w w') : RdF w' v fs := by
  obtain ⟨A, c, rfl, h1, h2, h3⟩ := h
  refine ⟨A, c, rfl, h1, h2, fun hn => ?_⟩
  obtain ⟨b, off, rfl, hc⟩ := h3 hn
  refine ⟨b, off, rfl, fun j f hj => ?_⟩
  obtain ⟨nv, e1, e2, e3⟩ := hc j f hj
  exact ⟨nv, cell_below hb _ _ e1, cell_below hb _ _ e2, e3.below hb⟩
def maskN (ss : List ByteArray) (fs : List (Int × List Int)) : List Nat := fs.map fun f => detN (rowsN ss) f.1 f.2 (onesN (ss.headD ByteArray.empty).size)
theorem rowsN_lt (ss : List ByteArray) (h : okTest ss) : ∀ r ∈ rowsN ss, r < 18446744073709551616 := by
  intro r hr
  obtain ⟨s, hs, rfl⟩ := List.mem_map.1 hr
  have h1 := rowN_lt s.data.toList
  have h2 := (h s hs).1
  have h3 : 2 ^ s.data.toList.length ≤ 2 ^ 64 := Nat.pow_le_pow_right (by decide) (by simpa using h2)
  exact Nat.lt_of_lt_of_le h1 h3
set_option maxRecDepth 100000 in
theorem masks_any (v fv : Value) (n : Nat) (ss : List ByteArray) (fs : List (Int × List Int)) (w : World) (hr : Rd w 1 v n (ss.map .string)) (hf : RdF w fv fs) (hn1 : 1 ≤ n) (hn : n ≤ 100) (hs : okTest ss) (hok : ∀ f ∈ fs, FOk n f.1 f.2) (hfl : fs.length ≤ 20000) :
    Calls Tryz.prog 57 #[v, fv] w fun e w' => ∃ v', e = .returned v' ∧ w'.ownsRow w.heap.size 73 1 v' fs.length (u64s (maskN ss fs)) ∧ Below w.heap.size w w' := by
  have hl : ss.length = n := by have := hr.len; simpa using this
  have HR0 := Lib.hid hr
  obtain ⟨A, c, rfl, h1, h2, h3, h4⟩ := hr
  obtain ⟨b, off, rfl, hc⟩ := h4 (by omega)
  have hs0 : ss.headD ByteArray.empty = ss[0]'(by omega) := by cases ss with
    | nil => simp at hl; omega
    | cons s t => rfl
  have hc0 : w.cell? ⟨b, off, none⟩ = some (.string (ss.headD ByteArray.empty)) := by
    have := hc 0 (.string (ss.headD ByteArray.empty)) (by rw [hs0]; simp [List.getElem?_eq_getElem (show 0 < ss.length by omega)])
    simpa using this
  have hs64 : (ss.headD ByteArray.empty).size ≤ 64 := (hs _ (by rw [hs0]; exact List.getElem_mem _)).1
  have HMK : Hid (∀ j, maskN ss (fs.take j) = (fs.take j).map fun f => detN (rowsN ss) f.1 f.2 (onesN (ss.headD ByteArray.empty).size)) := fun j => rfl
  generalize ss.headD ByteArray.empty = s0 at *
  have HF0 := Lib.hid hf
  obtain ⟨A2, c2, rfl, f1, f2, f3⟩ := hf
  have HC := Lib.hid hc
  have HL := Lib.hid hl
  clear hs0 hc hl h4 h3
  go_enter Tryz.func57, Tryz.ntmps57
  go_wp2_with fail
  refine (rows_any _ n ss w HR0.out hn hs).mono ?_
  rintro e w1 ⟨v1, rfl, hown1, hb1⟩
  have hrow1 := Rd.of_own hown1
  have HW1 := Lib.hid hrow1
  clear hrow1 hown1
  go_wp2_with fail
  go_loopw [6, 13] (fun v i wr => ∃ k : Nat, k ≤ fs.length ∧ i = .int .i64 k ∧ wr.ownsRow w1.heap.size 73 1 v k (u64s (maskN ss (fs.take k))) ∧ Below w1.heap.size w1 wr) (fun _ i _ => fs.length - (intOf i).toNat)
  case atStart => exact ⟨0, by omega, rfl, by simpa [u64s, maskN] using World.ownsRow_nil _ _ _ _, Below.refl _ _⟩
  case round =>
    obtain ⟨k, hk, rfl, hown, hbel⟩ := hrel
    by_cases hlt : k < fs.length
    · obtain ⟨b2, off2, rfl, hf2⟩ := f3 (by omega)
      obtain ⟨f, hfk⟩ : ∃ f, fs[k]? = some f := ⟨fs[k]'(by omega), List.getElem?_eq_getElem _⟩
      obtain ⟨nv, g1, g2, g3⟩ := hf2 k f hfk
      have hb3 : Below w.heap.size w wr := hb1.trans (hbel.mono hb1.size)
      have g1' := cell_below hb3 _ _ g1
      have g2' := cell_below hb3 _ _ g2
      have hc0' := cell_below hb3 _ _ hc0
      have G3 := Lib.hid g3
      obtain ⟨A3, c3, rfl, _, _, _, _⟩ := g3
      have HK := Lib.hid hfk
      clear hfk g1 g2
      have hsz : w.heap.size ≤ wr.heap.size := hb3.size
      go_upto_block 1 with fail
      go_cut [6] (fun v wx => wx.ownsRow w1.heap.size 73 1 v (k + 1) (u64s (maskN ss (fs.take (k + 1)))) ∧ Below w1.heap.size w1 wx)
      case first =>
        go_upto_region 6 with fail
        obtain ⟨W0, hW0⟩ : ∃ W0, W0 = wr.alloc (.cells #[.int .i64 f.1, .slice A3 f.2.length c3] 60) := ⟨_, rfl⟩
        have hbw : Below wr.heap.size wr W0 := by rw [hW0]; exact (Below.refl _ _).alloc (Nat.le_refl _) _
        have hsz0 : W0.heap.size = wr.heap.size + 1 := by rw [hW0]; simp
        have k0 : W0.cell? ⟨wr.heap.size, 0, none⟩ = some (.int .i64 f.1) := by rw [hW0, World.cell?_alloc_at _ _ _ _ rfl]; rfl
        have k1 : W0.cell? ⟨wr.heap.size, 1, none⟩ = some (.slice A3 f.2.length c3) := by rw [hW0, World.cell?_alloc_at _ _ _ _ rfl]; rfl
        rw [← hW0]
        have hc1 := cell_below hbw _ _ hc0'
        have hown0 := own_below hown hbw
        have hbe : Below w.heap.size w W0 := hb3.trans (hbw.mono hsz)
        have HRW := Lib.hid ((HW1.out.below hbel).below hbw)
        have HFV : Hid (FV W0 (.agg #[.int .i64 f.1, .slice A3 f.2.length c3]) f.1 f.2) := ⟨_, rfl, G3.out.below hbe⟩
        have hfok := Lib.hid (hok f (List.mem_of_getElem? HK.out))
        have HZ := Lib.hid hsz0
        clear hW0 hsz0
        have hn00 : 0 < n := hn1
        have hd3 : (s0.size : Int) ≤ 64 := by omega
        go_region_law (first
          | (refine app_step w1.heap.size rfl _ _ 74 73 (.int .u64 0) 1 8 rfl Tryz.underlying74 info_u64 rfl (by decide) (by decide) _ _ _ ((own_below (w := W0.drew) hown0 hb4).alloc _) _ 1 (by decide) _ ⟨w3, 0, rfl, rfl⟩ rfl rfl rfl (by simp [Value.oneCell']) (by simp; omega) (by omega) ?_; intro g cap w4 hown4 hg4 hat4)
          | (go_simp; go_at_call 111; (refine (detected_any _ _ n (rowsN ss) f.1 f.2 _ W0.drew HRW.out HFV.out hn1 hn hfok.out (rowsN_lt ss hs) (by omega) hd3).mono ?_; rintro e w3 ⟨rfl, hb4⟩; have hsz3 : w1.heap.size ≤ w3.heap.size := Nat.le_trans (Nat.le_trans hbel.size hbw.size) hb4.size)))
        all_goals (go_wp2_with fail; go_meet)
        all_goals
          have HM : u64s (maskN ss (fs.take (k + 1))) = u64s (maskN ss (fs.take k)) ++ [.int .u64 ((detN (rowsN ss) f.1 f.2 (onesN s0.size) : Nat) : Int)] := by
            have e : fs[k]'hlt = f := by have := HK.out; rw [List.getElem?_eq_getElem hlt] at this; simpa using this
            rw [HMK.out, HMK.out, List.take_succ_eq_append_getElem hlt, e, List.map_append, u64s, List.map_append]; rfl
          exact ⟨by rw [HM]; exact hown4, (((hbel.trans (hbw.mono hbel.size)).drew.trans (hb4.mono (Nat.le_trans hbel.size hbw.size))).alloc hsz3 _).grown hg4 (Nat.le_trans hsz3 (by simp)) (fun j hj => (own_lt hown hj).1)⟩
      case rest =>
        obtain ⟨hown2, hbel2⟩ := hcut
        go_wp2_with fail
        go_roundw
        case rel => exact ⟨k + 1, by omega, by go_num, hown2, hbel2⟩
        case measure => simp [intOf]; omega
    · obtain rfl : k = fs.length := by omega
      have HT : Hid (fs.take fs.length = fs) := List.take_length
      go_wp2_with fail
      go_ret
      exact ⟨_, rfl, by rw [HT.out] at hown; exact own_mono hown hb1.size, hb1.trans (hbel.mono hb1.size)⟩
end Go.Proofs.YtedpnjbbcfiheaaGreatDoor

/- Walks of CheckTest and of its reference. -/
set_option linter.unusedVariables false
namespace Go.Proofs.YtedpnjbbcfiheaaGreatDoor
open Go.RowKit Go.Sc
def tfL (z : Nat) : List ByteArray → Int
  | [] => 0
  | s :: r => if bits01 s = false then 3 else if 64 < s.size then 2 else if s.size ≠ z then 3 else tfL z r
/-- what is wrong with a test -/
def tfault (ss : List ByteArray) : Int := if ss.length = 0 then 8 else if 100 < ss.length then 2 else tfL (ss.headD ByteArray.empty).size ss
/-- strings that came in are not too long for the machine -/
def szOk (ss : List ByteArray) : Prop := ∀ s ∈ ss, s.size ≤ 9223372036854775807
theorem tfL_ok (z : Nat) (ss : List ByteArray) (h : tfL z ss = 0) : ∀ s ∈ ss, s.size ≤ 64 ∧ bits01 s = true ∧ s.size = z := by
  induction ss with
  | nil => simp
  | cons s r ih =>
    unfold tfL at h
    split at h
    · cases h
    · split at h
      · cases h
      · split at h
        · cases h
        · intro x hx
          rcases List.mem_cons.1 hx with rfl | hx
          · rename_i h1 h2 h3
            exact ⟨by omega, by simpa using h1, by simpa using h3⟩
          · exact ih h x hx
theorem tfault_ok {ss : List ByteArray} (h : tfault ss = 0) : 1 ≤ ss.length ∧ ss.length ≤ 100 ∧ okTest ss ∧ ∀ s ∈ ss, s.size = (ss.headD ByteArray.empty).size := by
  unfold tfault at h
  split at h
  · cases h
  · split at h
    · cases h
    · have := tfL_ok _ _ h
      exact ⟨by omega, by omega, fun s hs => ⟨(this s hs).1, (this s hs).2.1⟩, fun s hs => (this s hs).2.2⟩
set_option maxRecDepth 100000 in
set_option maxHeartbeats 1000000 in
theorem CheckTest_any (v : Value) (n : Nat) (ss : List ByteArray) (w : World) (hr : Rd w 1 v n (ss.map .string)) (hsz : szOk ss) :
    Calls Tryz.prog 110 #[v] w fun e w' => e = .returned (.int .i64 (tfault ss)) ∧ Below w.heap.size w w' := by
  have hl : ss.length = n := by have := hr.len; simpa using this
  obtain ⟨A, c, rfl, h1, h2, h3, h4⟩ := hr
  by_cases hn0 : n = 0
  · subst hn0
    go_enter Tryz.func110, Tryz.ntmps110
    go_wp2_with fail
    go_ret
    exact ⟨ret_int (by simp [tfault, hl]), Below.refl _ _⟩
  · by_cases hn1 : 100 < n
    · have e0 : ((n : Int) == 0) = false := by simp; omega
      have e1 : Hid (tfault ss = 2) := by show tfault ss = 2; simp [tfault, hl, hn0, hn1]
      clear hl h3 h4
      go_enter Tryz.func110, Tryz.ntmps110
      go_wp2_with fail
      go_ret
      exact ⟨ret_int e1.out.symm, Below.refl _ _⟩
    · obtain ⟨b, off, rfl, hc⟩ := h4 (by omega)
      have hs0 : ss.headD ByteArray.empty = ss[0]'(by omega) := by cases ss with
        | nil => simp at hl; omega
        | cons s t => rfl
      have hc0 : w.cell? ⟨b, off, none⟩ = some (.string (ss.headD ByteArray.empty)) := by
        have := hc 0 (.string (ss.headD ByteArray.empty)) (by rw [hs0]; simp [List.getElem?_eq_getElem (show 0 < ss.length by omega)])
        simpa using this
      have HT : Hid (tfault ss = tfL (ss.headD ByteArray.empty).size (ss.drop 0)) := by show tfault ss = _; simp [tfault, hl, hn0, hn1]
      clear hs0
      generalize ss.headD ByteArray.empty = s0 at *
      have e0 : ((n : Int) == 0) = false := by simp; omega
      have e1 : 0 < n := by omega
      have HC := Lib.hid hc
      have HL := Lib.hid hl
      clear hl h3 h4 hc hn0
      go_enter Tryz.func110, Tryz.ntmps110
      go_wp2_with fail
      go_loopw [15] (fun i wr => ∃ k : Nat, k ≤ n ∧ i = .int .i64 k ∧ Hid (tfault ss = tfL s0.size (ss.drop k)) ∧ Below w.heap.size w wr) (fun i _ => n - (intOf i).toNat)
      case atStart => exact ⟨0, by omega, rfl, HT, Below.refl _ _⟩
      case round =>
        obtain ⟨k, hk, rfl, HK, hbel⟩ := hrel
        clear HT
        by_cases hlt : k < n
        · obtain ⟨s, hsk⟩ : ∃ s, ss[k]? = some s := ⟨ss[k]'(by rw [HL.out]; exact hlt), List.getElem?_eq_getElem _⟩
          have c1 := cell_below hbel _ _ (HC.out k (.string s) (by simp [hsk]))
          have c0 := cell_below hbel _ _ hc0
          have hss := hsz s (List.mem_of_getElem? hsk)
          have HD := Lib.hid (drop_at hsk)
          clear hsk
          have HU : Hid (tfault ss = if bits01 s = false then 3 else if 64 < s.size then 2 else if s.size ≠ s0.size then 3 else tfL s0.size (ss.drop (k + 1))) := by
            show tfault ss = _; rw [HK.out, HD.out, tfL]
          clear HK HD
          cases hb : bits01 s
          · go_wp2_with (go_at_call 160; refine (Bits_any s _ hss).mono ?_; rintro e w3 ⟨rfl, hb3⟩)
            go_ret
            exact ⟨ret_int (by rw [HU.out, if_pos hb]), hbel.trans (hb3.mono hbel.size)⟩
          · by_cases h64 : 64 < s.size
            · go_wp2_with (go_at_call 160; refine (Bits_any s _ hss).mono ?_; rintro e w3 ⟨rfl, hb3⟩)
              go_ret
              exact ⟨ret_int (by rw [HU.out, if_neg (by rw [hb]; decide), if_pos h64]), hbel.trans (hb3.mono hbel.size)⟩
            · by_cases hz : s.size = s0.size
              · have ez : ((s.size : Int) != (s0.size : Int)) = false := by simp [hz]
                have HZ := Lib.hid hz
                clear hz
                go_wp2_with (go_at_call 160; refine (Bits_any s _ hss).mono ?_; rintro e w3 ⟨rfl, hb3⟩; have c0' := cell_below hb3 _ _ c0)
                go_roundw
                case rel => exact ⟨k + 1, by omega, by go_num, by show tfault ss = _; rw [HU.out, if_neg (by rw [hb]; decide), if_neg h64, if_neg (by simp [HZ.out])], hbel.trans (hb3.mono hbel.size)⟩
                case measure => simp [intOf]; omega
              · have ez : ((s.size : Int) != (s0.size : Int)) = true := by simp; omega
                go_wp2_with (go_at_call 160; refine (Bits_any s _ hss).mono ?_; rintro e w3 ⟨rfl, hb3⟩; have c0' := cell_below hb3 _ _ c0)
                go_ret
                exact ⟨ret_int (by rw [HU.out, if_neg (by rw [hb]; decide), if_neg h64, if_pos hz]), hbel.trans (hb3.mono hbel.size)⟩
        · obtain rfl : k = n := by omega
          have HZ : Hid (tfault ss = 0) := by show tfault ss = 0; rw [HK.out, List.drop_eq_nil_of_le (by rw [HL.out]; exact Nat.le_refl _)]; rfl
          go_wp2_with fail
          go_ret
          exact ⟨ret_int HZ.out.symm, hbel⟩
theorem rBits_b (s : ByteArray) (w : World) (hs : s.size ≤ 9223372036854775807) : Calls Tryz.prog 117 #[.string s] w fun e w' => e = .returned (.bool (bits01 s)) ∧ Below w.heap.size w w' :=
  (rBits_any s w hs).mono fun _ _ ⟨h1, h2⟩ => ⟨h1, h2 ▸ Below.refl _ _⟩
set_option maxRecDepth 100000 in
set_option maxHeartbeats 1000000 in
theorem TestFault_any (v : Value) (n : Nat) (ss : List ByteArray) (w : World) (hr : Rd w 1 v n (ss.map .string)) (hsz : szOk ss) :
    Calls Tryz.prog 64 #[v] w fun e w' => e = .returned (.int .i64 (tfault ss)) ∧ Below w.heap.size w w' := by
  have hl : ss.length = n := by have := hr.len; simpa using this
  obtain ⟨A, c, rfl, h1, h2, h3, h4⟩ := hr
  by_cases hn0 : n = 0
  · subst hn0
    go_enter Tryz.func64, Tryz.ntmps64
    go_wp2_with fail
    go_ret
    exact ⟨ret_int (by simp [tfault, hl]), Below.refl _ _⟩
  · by_cases hn1 : 100 < n
    · have e0 : ((n : Int) == 0) = false := by simp; omega
      have e1 : Hid (tfault ss = 2) := by show tfault ss = 2; simp [tfault, hl, hn0, hn1]
      clear hl h3 h4
      go_enter Tryz.func64, Tryz.ntmps64
      go_wp2_with fail
      go_ret
      exact ⟨ret_int e1.out.symm, Below.refl _ _⟩
    · obtain ⟨b, off, rfl, hc⟩ := h4 (by omega)
      have hs0 : ss.headD ByteArray.empty = ss[0]'(by omega) := by cases ss with
        | nil => simp at hl; omega
        | cons s t => rfl
      have hc0 : w.cell? ⟨b, off, none⟩ = some (.string (ss.headD ByteArray.empty)) := by
        have := hc 0 (.string (ss.headD ByteArray.empty)) (by rw [hs0]; simp [List.getElem?_eq_getElem (show 0 < ss.length by omega)])
        simpa using this
      have HT : Hid (tfault ss = tfL (ss.headD ByteArray.empty).size (ss.drop 0)) := by show tfault ss = _; simp [tfault, hl, hn0, hn1]
      clear hs0
      generalize ss.headD ByteArray.empty = s0 at *
      have e0 : ((n : Int) == 0) = false := by simp; omega
      have e1 : 0 < n := by omega
      have HC := Lib.hid hc
      have HL := Lib.hid hl
      clear hl h3 h4 hc hn0
      go_enter Tryz.func64, Tryz.ntmps64
      go_wp2_with fail
      go_loopw [15] (fun i wr => ∃ k : Nat, k ≤ n ∧ i = .int .i64 k ∧ Hid (tfault ss = tfL s0.size (ss.drop k)) ∧ Below w.heap.size w wr) (fun i _ => n - (intOf i).toNat)
      case atStart => exact ⟨0, by omega, rfl, HT, Below.refl _ _⟩
      case round =>
        obtain ⟨k, hk, rfl, HK, hbel⟩ := hrel
        clear HT
        by_cases hlt : k < n
        · obtain ⟨s, hsk⟩ : ∃ s, ss[k]? = some s := ⟨ss[k]'(by rw [HL.out]; exact hlt), List.getElem?_eq_getElem _⟩
          have c1 := cell_below hbel _ _ (HC.out k (.string s) (by simp [hsk]))
          have c0 := cell_below hbel _ _ hc0
          have hss := hsz s (List.mem_of_getElem? hsk)
          have HD := Lib.hid (drop_at hsk)
          clear hsk
          have HU : Hid (tfault ss = if bits01 s = false then 3 else if 64 < s.size then 2 else if s.size ≠ s0.size then 3 else tfL s0.size (ss.drop (k + 1))) := by
            show tfault ss = _; rw [HK.out, HD.out, tfL]
          clear HK HD
          cases hb : bits01 s
          · go_wp2_with (go_at_call 117; refine (rBits_b s _ hss).mono ?_; rintro e w3 ⟨rfl, hb3⟩)
            go_ret
            exact ⟨ret_int (by rw [HU.out, if_pos hb]), hbel.trans (hb3.mono hbel.size)⟩
          · by_cases h64 : 64 < s.size
            · go_wp2_with (go_at_call 117; refine (rBits_b s _ hss).mono ?_; rintro e w3 ⟨rfl, hb3⟩)
              go_ret
              exact ⟨ret_int (by rw [HU.out, if_neg (by rw [hb]; decide), if_pos h64]), hbel.trans (hb3.mono hbel.size)⟩
            · by_cases hz : s.size = s0.size
              · have ez : ((s.size : Int) != (s0.size : Int)) = false := by simp [hz]
                have HZ := Lib.hid hz
                clear hz
                go_wp2_with (go_at_call 117; refine (rBits_b s _ hss).mono ?_; rintro e w3 ⟨rfl, hb3⟩; have c0' := cell_below hb3 _ _ c0)
                go_roundw
                case rel => exact ⟨k + 1, by omega, by go_num, by show tfault ss = _; rw [HU.out, if_neg (by rw [hb]; decide), if_neg h64, if_neg (by simp [HZ.out])], hbel.trans (hb3.mono hbel.size)⟩
                case measure => simp [intOf]; omega
              · have ez : ((s.size : Int) != (s0.size : Int)) = true := by simp; omega
                go_wp2_with (go_at_call 117; refine (rBits_b s _ hss).mono ?_; rintro e w3 ⟨rfl, hb3⟩; have c0' := cell_below hb3 _ _ c0)
                go_ret
                exact ⟨ret_int (by rw [HU.out, if_neg (by rw [hb]; decide), if_neg h64, if_pos hz]), hbel.trans (hb3.mono hbel.size)⟩
        · obtain rfl : k = n := by omega
          have HZ : Hid (tfault ss = 0) := by show tfault ss = 0; rw [HK.out, List.drop_eq_nil_of_le (by rw [HL.out]; exact Nat.le_refl _)]; rfl
          go_wp2_with fail
          go_ret
          exact ⟨ret_int HZ.out.symm, hbel⟩
end Go.Proofs.YtedpnjbbcfiheaaGreatDoor

/- The library's contracts in the words of this claim: Contains, Equal, Clone at numbers and strings. -/
set_option linter.unusedVariables false
namespace Go.Proofs.YtedpnjbbcfiheaaGreatDoor
open Go.RowKit Go.Sc
def conB (xs : List Int) (x : Int) : Bool := xs.contains x
theorem conB_iff (xs : List Int) (x : Int) : conB xs x = true ↔ x ∈ xs := by simp [conB]
theorem rd_int_at {w : World} {n b off : Nat} {k : IntKind} {xs : List Int} (h3 : (xs.map (Value.int k)).length = n * 1) (hc : ∀ j u, (xs.map (Value.int k))[j]? = some u → w.cell? ⟨b, off + j, none⟩ = some u) (j : Nat) (hj : j < xs.length) : w.cell? ⟨b, off + j, none⟩ = some (.int k (xs.getD j 0)) := by
  have := hc j _ (getD_map_int k xs j hj)
  rw [this, List.getD_eq_getElem?_getD]
theorem Contains_any (v : Value) (n : Nat) (xs : List Int) (x : Int) (w : World) (hr : Rd w 1 v n (xs.map (.int .i64))) (hn : n ≤ 9223372036854775807) :
    Calls Tryz.prog 44 #[v, .int .i64 x] w fun e w' => e = .returned (.bool (conB xs x)) ∧ w = w' := by
  obtain ⟨A, c, rfl, h1, h2, h3, h4⟩ := hr
  have hl : xs.length = n := by simpa using h3
  rcases Nat.eq_zero_or_pos n with h0 | h0
  · subst h0
    obtain rfl : xs = [] := List.eq_nil_of_length_eq_zero hl
    exact (Tryz.slices_Contains_int_empty A c x w).mono fun _ _ ⟨a, b⟩ => ⟨a, b.symm⟩
  · obtain ⟨b, off, rfl, hc⟩ := h4 h0
    refine (Tryz.slices_Contains_int b off n c xs x w (by omega) hn (rd_int_at h3 hc)).mono fun _ _ ⟨a, b⟩ => ⟨?_, b.symm⟩
    rw [a, List.take_of_length_le (by omega), conB]
def eqB (xs ys : List Int) : Bool := xs == ys
theorem Equal_int_any (v u : Value) (n m : Nat) (xs ys : List Int) (w : World) (hr : Rd w 1 v n (xs.map (.int .i64))) (hs : Rd w 1 u m (ys.map (.int .i64))) (hn : n ≤ 9223372036854775807) (hm : m ≤ 9223372036854775807) :
    Calls Tryz.prog 17 #[v, u] w fun e w' => e = .returned (.bool (eqB xs ys)) ∧ ∃ q, w' = w.drewN q := by
  obtain ⟨A, c, rfl, h1, h2, h3, h4⟩ := hr
  obtain ⟨A2, c2, rfl, g1, g2, g3, g4⟩ := hs
  have hl : xs.length = n := by simpa using h3
  have hl2 : ys.length = m := by simpa using g3
  by_cases h0 : n = 0
  · subst h0
    obtain rfl : xs = [] := List.eq_nil_of_length_eq_zero hl
    refine (Tryz.slices_Equal_int_empty A A2 c m c2 w hm).mono fun _ _ ⟨a, b⟩ => ⟨?_, 0, b⟩
    rw [a, eqB]
    subst hl2
    cases ys <;> simp
  · by_cases h0' : m = 0
    · subst h0'
      obtain rfl : ys = [] := List.eq_nil_of_length_eq_zero hl2
      refine (Tryz.slices_Equal_int_lens A A2 n c 0 c2 w h0).mono fun _ _ ⟨a, b⟩ => ⟨?_, 0, b⟩
      rw [a, eqB]
      cases xs with
      | nil => simp at hl; omega
      | cons x xs => rfl
    · obtain ⟨b, off, rfl, hc⟩ := h4 (by omega)
      obtain ⟨b2, off2, rfl, hc2⟩ := g4 (by omega)
      refine (Tryz.slices_Equal_int b off n c b2 off2 m c2 xs ys w (by omega) (by omega) hn hm (rd_int_at h3 hc) (rd_int_at g3 hc2)).mono fun _ _ ⟨a, b⟩ => ⟨?_, b⟩
      rw [a, List.take_of_length_le (by omega), List.take_of_length_le (by omega), eqB]
theorem rd_str_at {w : World} {n b off : Nat} {xs : List ByteArray} (h3 : (xs.map Value.string).length = n * 1) (hc : ∀ j u, (xs.map Value.string)[j]? = some u → w.cell? ⟨b, off + j, none⟩ = some u) (j : Nat) (hj : j < xs.length) : w.cell? ⟨b, off + j, none⟩ = some (.string (xs.getD j ByteArray.empty)) := by
  have := hc j (.string (xs.getD j ByteArray.empty)) (by simp [List.getElem?_eq_getElem hj, List.getD_eq_getElem?_getD])
  exact this
def eqS (xs ys : List ByteArray) : Bool := decide (xs = ys)
theorem Equal_str_any (v u : Value) (n m : Nat) (xs ys : List ByteArray) (w : World) (hr : Rd w 1 v n (xs.map .string)) (hs : Rd w 1 u m (ys.map .string)) (hn : n ≤ 9223372036854775807) (hm : m ≤ 9223372036854775807) :
    Calls Tryz.prog 18 #[v, u] w fun e w' => e = .returned (.bool (eqS xs ys)) ∧ ∃ q, w' = w.drewN q := by
  obtain ⟨A, c, rfl, h1, h2, h3, h4⟩ := hr
  obtain ⟨A2, c2, rfl, g1, g2, g3, g4⟩ := hs
  have hl : xs.length = n := by simpa using h3
  have hl2 : ys.length = m := by simpa using g3
  by_cases h0 : n = 0
  · subst h0
    obtain rfl : xs = [] := List.eq_nil_of_length_eq_zero hl
    refine (Tryz.slices_Equal_string_empty A A2 c m c2 w hm).mono fun _ _ ⟨a, b⟩ => ⟨?_, 0, b⟩
    rw [a, eqS]
    subst hl2
    cases ys <;> simp
  · by_cases h0' : m = 0
    · subst h0'
      obtain rfl : ys = [] := List.eq_nil_of_length_eq_zero hl2
      refine (Tryz.slices_Equal_string_lens A A2 n c 0 c2 w h0).mono fun _ _ ⟨a, b⟩ => ⟨?_, 0, b⟩
      rw [a, eqS]
      cases xs with
      | nil => simp at hl; omega
      | cons x xs => simp
    · obtain ⟨b, off, rfl, hc⟩ := h4 (by omega)
      obtain ⟨b2, off2, rfl, hc2⟩ := g4 (by omega)
      refine (Tryz.slices_Equal_string b off n c b2 off2 m c2 xs ys w (by omega) (by omega) hn hm (rd_str_at h3 hc) (rd_str_at g3 hc2)).mono fun _ _ ⟨a, b⟩ => ⟨?_, b⟩
      rw [a, List.take_of_length_le (by omega), List.take_of_length_le (by omega), eqS]
end Go.Proofs.YtedpnjbbcfiheaaGreatDoor

/- Walks of rows and with. -/
import Derived.Test.YtedpnjbbcfiheaaGreatDoorW4
import Derived.Deep.DeepCutAuto
import Derived.Deep.CutBlock
import Derived.Deep.LoopGhost
set_option linter.unusedVariables false
namespace Go.Proofs.YtedpnjbbcfiheaaGreatDoor
open Go.RowKit Go.Sc
theorem info_u64 : (Tryz.prog.info? 73).map (fun i => (i.zero, i.size, i.bytes)) = some (some (.int .u64 0), 1, 8) := by kernel_rfl
def rowsN (ss : List ByteArray) : List Nat := ss.map fun s => rowN s.data.toList
def okTest (ss : List ByteArray) : Prop := ∀ s ∈ ss, s.size ≤ 64 ∧ bits01 s = true
set_option maxRecDepth 100000 in
theorem rows_any (v : Value) (n : Nat) (ss : List ByteArray) (w : World) (hr : Rd w 1 v n (ss.map .string)) (hb : n ≤ 100) (hs : okTest ss) :
    Calls Tryz.prog 95 #[v] w fun e w' => ∃ v', e = .returned v' ∧ w'.ownsRow w.heap.size 73 1 v' n (u64s (rowsN ss)) ∧ Below w.heap.size w w' := by
  obtain ⟨A, c, rfl, h1, h2, h3, h4⟩ := hr
  have hl : ss.length = n := by simpa using h3
  go_enter Tryz.func95, Tryz.ntmps95
  go_wp2
  go_loopw [3, 10] (fun v i wr => ∃ k : Nat, k ≤ n ∧ i = .int .i64 k ∧ wr.ownsRow w.heap.size 73 1 v k (u64s (rowsN (ss.take k))) ∧ Below w.heap.size w wr) (fun _ i _ => n - (intOf i).toNat)
  case atStart => exact ⟨0, by omega, rfl, by simpa [u64s, rowsN] using World.ownsRow_nil _ _ _ _, Below.refl _ _⟩
  case round =>
    obtain ⟨k, hk, rfl, hown, hbel⟩ := hrel
    by_cases hlt : k < n
    · obtain ⟨b, off, rfl, hc⟩ := h4 (by omega)
      obtain ⟨s, hsk⟩ : ∃ s, ss[k]? = some s := ⟨ss[k]'(by omega), List.getElem?_eq_getElem _⟩
      have hcell : wr.cell? ⟨b, off + k, none⟩ = some (.string s) := cell_below hbel _ _ (hc k _ (by simp [hsk]))
      have hsz : s.size ≤ 64 := (hs s (List.mem_of_getElem? hsk)).1
      have hbt := Lib.hid (hs s (List.mem_of_getElem? hsk)).2
      have hsize := hbel.size
      have HT : Hid (rowsN (ss.take (k + 1)) = rowsN (ss.take k) ++ [rowN s.data.toList]) := by
        have e : ss[k]'(by omega) = s := by rw [List.getElem?_eq_getElem (by omega)] at hsk; simpa using hsk
        show rowsN (ss.take (k + 1)) = _
        rw [List.take_succ_eq_append_getElem (by omega), rowsN, List.map_append, e]; rfl
      clear hsk hc
      go_wp2
      go_loop [6, 16] (fun x j => ∃ i : Nat, i ≤ s.size ∧ j = .int .i64 i ∧ x = .int .u64 ((rowN (s.data.toList.take i) : Nat) : Int)) (fun _ j => s.size - (intOf j).toNat)
      case atStart => exact ⟨0, by omega, rfl, rfl⟩
      case round =>
        obtain ⟨i, hi, rfl, rfl⟩ := hrel
        by_cases hil : i < s.size
        · have hbb := bits01_at hbt.out i hil
          have hq := rowN_lt (s.data.toList.take i)
          have hql : (s.data.toList.take i).length = i := by simp; omega
          have hb1 : 48 ≤ ((s[i]'hil).toNat : Int) := by rcases hbb with h | h <;> rw [h] <;> decide
          have hb2 : ((s[i]'hil).toNat : Int) ≤ 49 := by rcases hbb with h | h <;> rw [h] <;> decide
          have HO := Lib.hid (or_step (rowN (s.data.toList.take i)) i (s[i]'hil) (by rw [hql] at hq; exact hq) (by omega) hbb)
          have HN : Hid (rowN (s.data.toList.take (i + 1)) = rowN (s.data.toList.take i) + bit1 (s[i]'hil) * 2 ^ i) := by
            show rowN _ = _
            rw [take_snoc s i hil, rowN_snoc, hql]
          clear hbb hq hql
          generalize rowN (s.data.toList.take i) = q at *
          go_wp2_with fail
          go_roundw
          case rel => exact ⟨i + 1, by omega, by go_num, by rw [HO.out, HN.out]⟩
          case measure => simp [intOf]; omega
        · have HI : Hid (s.data.toList.take i = s.data.toList) := List.take_of_length_le (by simp; omega)
          generalize hq : rowN (s.data.toList.take i) = q at *
          have HQ : Hid (q = rowN s.data.toList) := by show q = _; rw [← hq, HI.out]
          clear hq
          go_wp2_with (at_builtin; refine app w.heap.size rfl _ _ 74 73 (.int .u64 0) 1 8 rfl Tryz.underlying74 info_u64 rfl (by decide) (by decide) _ _ _ hown _ 1 rfl rfl rfl (by simp [Value.oneCell']) hsize (by omega) ?_; intro v1 w1 hown1 hg1 hat)
          go_roundw
          case rel => exact ⟨k + 1, by omega, by go_num, by rw [HT.out, ← HQ.out]; simpa [u64s] using hown1, hbel.grown hg1 hsize (fun j hj => (own_lt hown hj).1)⟩
          case measure => simp [intOf]; omega
    · obtain rfl : k = n := by omega
      have HL : Hid (ss.take k = ss) := List.take_of_length_le (by omega)
      go_wp2
      go_ret
      exact ⟨_, rfl, by rw [HL.out] at hown; exact hown, hbel⟩

/-! ### with -/
def atN (rs : List Nat) (i : Int) : Nat := rs[i.toNat]?.getD 0
def valN (rs : List Nat) (k : Int) (ns : List Int) (ones : Nat) : Nat :=
  if k = 1 then 0 else if k = 2 ∨ k = 6 then ones
  else if k = 3 then ns.foldl (fun v n => v &&& atN rs n) (atN rs (ns[0]?.getD 0))
  else if k = 4 then ns.foldl (fun v n => v ||| atN rs n) (atN rs (ns[0]?.getD 0))
  else atN rs (ns[0]?.getD 0)
def putN (rs : List Nat) (ns : List Int) (x : Nat) : List Nat := ns.foldl (fun r n => r.set n.toNat x) rs
def withN (rs : List Nat) (k : Int) (ns : List Int) (ones : Nat) : List Nat := putN rs ns (valN rs k ns ones)
theorem putN_len (rs : List Nat) (ns : List Int) (x : Nat) : (putN rs ns x).length = rs.length := by
  unfold putN
  induction ns generalizing rs with
  | nil => rfl
  | cons n ns ih => rw [List.foldl_cons, ih, List.length_set]
set_option maxRecDepth 100000 in
set_option maxHeartbeats 2000000 in
theorem with_any (base g len cap : Nat) (rs : List Nat) (k : Int) (nv : Value) (m : Nat) (ns : List Int) (ones : Nat) (w : World)
    (hown : w.ownsRow base 73 1 (.slice (some ⟨g, 0, none⟩) len cap) len (u64s rs)) (hn : Rd w 1 nv m (ns.map (.int .i64))) (hm : 1 ≤ m)
    (hns : ∀ n ∈ ns, 0 ≤ n ∧ n < len) (hnv : ∀ A n c, nv = .slice (some A) n c → A.block ≠ g) (hlen : len ≤ 100)
    (hrs : ∀ r ∈ rs, r < 18446744073709551616) (ho : ones < 18446744073709551616) (hm6 : m ≤ 6) :
    Calls Tryz.prog 96 #[.slice (some ⟨g, 0, none⟩) len cap, .agg #[.int .i64 k, nv], .int .u64 (ones : Int)] w fun e w' => e = .returned (.tuple #[]) ∧ w'.ownsRow base 73 1 (.slice (some ⟨g, 0, none⟩) len cap) len (u64s (withN rs k ns ones)) ∧ w.grownBy w' (some g) := by
  obtain ⟨A, c, rfl, h1, h2, h3, h4⟩ := hn
  obtain ⟨b, off, rfl, hc⟩ := h4 (by omega)
  have hbg : b ≠ g := hnv _ _ _ rfl
  have hl : ns.length = m := by simpa using h3
  have hrl : rs.length = len := by have := hown.1; rw [u64s_len] at this; omega
  have hn0 : ns[0]?.getD 0 = ns[0]'(by omega) := by simp [List.getElem?_eq_getElem (show 0 < ns.length by omega)]
  obtain ⟨n0, n1⟩ := hns (ns[0]?.getD 0) (by rw [hn0]; exact List.getElem_mem _)
  have hc0 : w.cell? ⟨b, off, none⟩ = some (.int .i64 (ns[0]?.getD 0)) := by
    have := hc 0 (.int .i64 (ns[0]?.getD 0)) (by simp [List.getElem?_eq_getElem (show 0 < ns.length by omega)])
    simpa using this
  have hr0 := own_cell_u64 hown (ns[0]?.getD 0).toNat (by omega)
  have hblt : b < w.heap.size := World.block_lt_of_cell? _ _ hc0
  have hglt := (own_lt hown rfl).2
  obtain ⟨i0, hi0⟩ : ∃ i0, i0 = ns[0]?.getD 0 := ⟨_, rfl⟩
  rw [← hi0] at n0 n1 hc0 hr0
  obtain ⟨r0, hr00⟩ : ∃ r0, r0 = atN rs i0 := ⟨_, rfl⟩
  replace hr0 : w.cell? ⟨g, i0.toNat, none⟩ = some (.int .u64 ((atN rs i0 : Nat) : Int)) := hr0
  rw [← hr00] at hr0
  have HI0 := Lib.hid hi0
  have HR0 := Lib.hid hr00
  clear hi0 hr00 hn0
  go_enter Tryz.func96, Tryz.ntmps96
  go_upto_block 0 with fail
  go_cut [6] (fun v wx => v = .int .u64 ((valN rs k ns ones : Nat) : Int) ∧ wx = w.alloc (.cells #[.int .i64 k, .slice (some ⟨b, off, none⟩) m c] 60))
  case first =>
    have hcw : ∀ j, j < m → (w.alloc (.cells #[.int .i64 k, .slice (some ⟨b, off, none⟩) m c] 60)).cell? ⟨b, off + j, none⟩ = some (.int .i64 (ns[j]?.getD 0)) := fun j hj => by
      rw [World.cell?_alloc_past _ _ _ hblt]
      exact hc j _ (getD_map_int _ _ _ (by omega))
    have hrw : ∀ j, j < len → (w.alloc (.cells #[.int .i64 k, .slice (some ⟨b, off, none⟩) m c] 60)).cell? ⟨g, j, none⟩ = some (.int .u64 ((rs[j]?.getD 0 : Nat) : Int)) := fun j hj => by
      rw [World.cell?_alloc_past _ _ _ hglt]
      exact own_cell_u64 hown j hj
    have hr64 : ∀ i, atN rs i < 18446744073709551616 := fun i => by
      unfold atN
      generalize i.toNat = j
      cases h : rs[j]? with
      | none => simp
      | some r => exact hrs r (List.mem_of_getElem? h)
    have hnj : ∀ j, j < m → 0 ≤ ns[j]?.getD 0 ∧ ns[j]?.getD 0 < len := fun j hj => by
      rw [List.getElem?_eq_getElem (by omega)]
      exact hns _ (List.getElem_mem _)
    have HV : Hid (valN rs k ns ones = if k = 1 then 0 else if k = 2 ∨ k = 6 then ones
      else if k = 3 then ns.foldl (fun v n => v &&& atN rs n) r0
      else if k = 4 then ns.foldl (fun v n => v ||| atN rs n) r0 else r0) := by
      show valN rs k ns ones = _
      rw [HR0.out, HI0.out, valN]
    have hr064 : r0 < 18446744073709551616 := by rw [HR0.out]; exact hr64 _
    have hW1 : (w.alloc (.cells #[.int .i64 k, .slice (some ⟨b, off, none⟩) m c] 60)).cell? ⟨w.heap.size, 1, none⟩ = some (.slice (some ⟨b, off, none⟩) m c) := by
      rw [World.cell?_alloc_at _ _ _ _ rfl]; rfl
    clear hown hc hrs hns
    generalize (w.alloc (.cells #[.int .i64 k, .slice (some ⟨b, off, none⟩) m c] 60)) = W at *
    have HC := Lib.hid hcw
    have HR := Lib.hid hrw
    have H64 := Lib.hid hr64
    have HNJ := Lib.hid hnj
    clear hcw hrw hr64 hnj
    have e : k = 1 ∨ k = 2 ∨ k = 6 ∨ k = 3 ∨ k = 4 ∨ (k ≠ 1 ∧ k ≠ 2 ∧ k ≠ 6 ∧ k ≠ 3 ∧ k ≠ 4) := by omega
    rcases e with rfl | rfl | rfl | rfl | rfl | ⟨k1, k2, k6, k3, k4⟩
    · go_wp2_with fail
      go_meet
      exact ⟨by rw [HV.out]; rfl, rfl⟩
    · go_wp2_with fail
      go_meet
      exact ⟨by rw [HV.out]; rfl, rfl⟩
    · go_wp2_with fail
      go_meet
      exact ⟨by rw [HV.out]; rfl, rfl⟩
    · have HV3 : Hid (valN rs 3 ns ones = ns.foldl (fun v n => v &&& atN rs n) r0) := by show _ = _; rw [HV.out]; rfl
      clear HV
      go_wp2_with fail
      go_loop [6, 33] (fun v i => ∃ j q : Nat, j ≤ m ∧ i = .int .i64 j ∧ v = .int .u64 (q : Int) ∧ q < 18446744073709551616 ∧ Hid (q = (ns.take j).foldl (fun v n => v &&& atN rs n) r0)) (fun _ i => m - (intOf i).toNat)
      case atStart => exact ⟨0, r0, by omega, rfl, rfl, hr064, rfl⟩
      case round =>
        obtain ⟨j, q, hj, rfl, rfl, hq, HQ⟩ := hrel
        by_cases hlt : j < m
        · have e1 := HC.out j hlt
          obtain ⟨e2, e3⟩ := HNJ.out j hlt
          have HJ : Hid (ns.take (j + 1) = ns.take j ++ [ns[j]?.getD 0]) := by
            show _ = _
            rw [List.take_succ_eq_append_getElem (by omega), List.getElem?_eq_getElem (by omega)]; rfl
          generalize ns[j]?.getD 0 = nj at *
          have e4 : W.cell? ⟨g, nj.toNat, none⟩ = some (.int .u64 ((atN rs nj : Nat) : Int)) := HR.out nj.toNat (by omega)
          have e5 := H64.out nj
          have HX : Hid (bits .and .u64 (q : Int) ((atN rs nj : Nat) : Int) = ((q &&& atN rs nj : Nat) : Int)) := u64_and_nat _ _ hq e5
          have HL : Hid (q &&& atN rs nj < 18446744073709551616) := Nat.lt_of_le_of_lt Nat.and_le_left hq
          have HF : Hid (q &&& atN rs nj = (ns.take (j + 1)).foldl (fun v n => v &&& atN rs n) r0) := by
            show _ = _
            rw [HJ.out, List.foldl_append, ← HQ.out]; rfl
          generalize atN rs nj = rj at *
          go_wp2_with fail
          go_round
          case rel => exact ⟨j + 1, q &&& rj, by omega, by go_num, by rw [HX.out], HL.out, HF⟩
          case measure => simp [intOf]; omega
        · obtain rfl : j = m := by omega
          have HF : Hid (q = valN rs 3 ns ones) := by
            show q = _
            rw [HV3.out, HQ.out, List.take_of_length_le (by omega)]
          go_wp2_with fail
          go_meet
          exact ⟨by rw [← HF.out], rfl⟩
    · have HV3 : Hid (valN rs 4 ns ones = ns.foldl (fun v n => v ||| atN rs n) r0) := by show _ = _; rw [HV.out]; rfl
      clear HV
      go_wp2_with fail
      go_loop [6, 49] (fun v i => ∃ j q : Nat, j ≤ m ∧ i = .int .i64 j ∧ v = .int .u64 (q : Int) ∧ q < 18446744073709551616 ∧ Hid (q = (ns.take j).foldl (fun v n => v ||| atN rs n) r0)) (fun _ i => m - (intOf i).toNat)
      case atStart => exact ⟨0, r0, by omega, rfl, rfl, hr064, rfl⟩
      case round =>
        obtain ⟨j, q, hj, rfl, rfl, hq, HQ⟩ := hrel
        by_cases hlt : j < m
        · have e1 := HC.out j hlt
          obtain ⟨e2, e3⟩ := HNJ.out j hlt
          have HJ : Hid (ns.take (j + 1) = ns.take j ++ [ns[j]?.getD 0]) := by
            show _ = _
            rw [List.take_succ_eq_append_getElem (by omega), List.getElem?_eq_getElem (by omega)]; rfl
          generalize ns[j]?.getD 0 = nj at *
          have e4 : W.cell? ⟨g, nj.toNat, none⟩ = some (.int .u64 ((atN rs nj : Nat) : Int)) := HR.out nj.toNat (by omega)
          have e5 := H64.out nj
          have HX : Hid (bits .or .u64 (q : Int) ((atN rs nj : Nat) : Int) = ((q ||| atN rs nj : Nat) : Int)) := u64_or_nat _ _ hq e5
          have HL : Hid (q ||| atN rs nj < 18446744073709551616) := Nat.or_lt_two_pow (n := 64) hq e5
          have HF : Hid (q ||| atN rs nj = (ns.take (j + 1)).foldl (fun v n => v ||| atN rs n) r0) := by
            show _ = _
            rw [HJ.out, List.foldl_append, ← HQ.out]; rfl
          generalize atN rs nj = rj at *
          go_wp2_with fail
          go_round
          case rel => exact ⟨j + 1, q ||| rj, by omega, by go_num, by rw [HX.out], HL.out, HF⟩
          case measure => simp [intOf]; omega
        · obtain rfl : j = m := by omega
          have HF : Hid (q = valN rs 4 ns ones) := by
            show q = _
            rw [HV3.out, HQ.out, List.take_of_length_le (by omega)]
          go_wp2_with fail
          go_meet
          exact ⟨by rw [← HF.out], rfl⟩
    · have HV5 : Hid (valN rs k ns ones = r0) := by show _ = _; rw [HV.out]; simp [k1, k2, k6, k3, k4]
      have b1 : (k == 1) = false := by simp [k1]
      have b2 : (k == 2) = false := by simp [k2]
      have b3 : (k == 6) = false := by simp [k6]
      have b4 : (k == 3) = false := by simp [k3]
      have b5 : (k == 4) = false := by simp [k4]
      clear k1 k2 k6 k3 k4
      go_wp2_with fail
      go_meet
      exact ⟨by rw [HV5.out], rfl⟩
  case rest =>
    obtain ⟨rfl, rfl⟩ := hcut
    have hg1 := World.grownBy_alloc w (.cells #[.int .i64 k, .slice (some ⟨b, off, none⟩) m c] 60) (some g)
    have hown1 := hown.alloc (.cells #[.int .i64 k, .slice (some ⟨b, off, none⟩) m c] 60)
    have HE : Hid (putN rs ns (valN rs k ns ones) = withN rs k ns ones) := rfl
    have HC := Lib.hid hc
    have HNS := Lib.hid hns
    generalize valN rs k ns ones = x at *
    clear hc hns hown hrs
    go_wp2_with fail
    go_loopw [63] (fun i wr => ∃ j : Nat, j ≤ m ∧ i = .int .i64 j ∧ wr.ownsRow base 73 1 (.slice (some ⟨g, 0, none⟩) len cap) len (u64s (putN rs (ns.take j) x)) ∧ w.grownBy wr (some g)
      ∧ wr.cell? ⟨w.heap.size, 1, none⟩ = some (.slice (some ⟨b, off, none⟩) m c)) (fun i _ => m - (intOf i).toNat)
    case atStart => exact ⟨0, by omega, rfl, hown1, hg1, by rw [World.cell?_alloc_at _ _ _ _ rfl]; rfl⟩
    case round =>
      obtain ⟨j, hj, rfl, hown2, hg2, hc2⟩ := hrel
      by_cases hlt : j < m
      · have e1 : wr.cell? ⟨b, off + j, none⟩ = some (.int .i64 (ns[j]?.getD 0)) := hg2.cell (HC.out j _ (getD_map_int _ _ _ (by omega))) (by simpa using hbg)
        obtain ⟨e2, e3⟩ : 0 ≤ ns[j]?.getD 0 ∧ ns[j]?.getD 0 < len := by
          rw [List.getElem?_eq_getElem (by omega)]
          exact HNS.out _ (List.getElem_mem _)
        have HJ : Hid (ns.take (j + 1) = ns.take j ++ [ns[j]?.getD 0]) := by
            show _ = _
            rw [List.take_succ_eq_append_getElem (by omega), List.getElem?_eq_getElem (by omega)]; rfl
        generalize ns[j]?.getD 0 = nj at *
        have e4 := own_cell_u64 hown2 nj.toNat (by omega)
        have e5 := fun i => hown2.frozenAt i
        have o2 := own_set_u64 hown2 nj.toNat x
        have HP : Hid ((putN rs (ns.take j) x).set nj.toNat x = putN rs (ns.take (j + 1)) x) := by
          show _ = _
          rw [HJ.out, putN, putN, List.foldl_append]; rfl
        have hgs : w.grownBy (wr.setCell ⟨g, nj.toNat, none⟩ (.int .u64 (x : Int))) (some g) := gb_setCell hg2 (.inl rfl) _
        have hc3 : (wr.setCell ⟨g, nj.toNat, none⟩ (.int .u64 (x : Int))).cell? ⟨w.heap.size, 1, none⟩ = some (.slice (some ⟨b, off, none⟩) m c) :=
          (World.cell?_of_block (w := wr) (Below.heap_setCell _ _ _ _ (by show w.heap.size ≠ g; omega))).trans hc2
        generalize (putN rs (ns.take j) x)[nj.toNat]?.getD 0 = old at *
        go_wp2_with fail
        go_roundw
        case rel => exact ⟨j + 1, by omega, by go_num, by rw [← HP.out]; exact o2, hgs, hc3⟩
        case measure => simp [intOf]; omega
      · obtain rfl : j = m := by omega
        have HT : Hid (ns.take j = ns) := List.take_of_length_le (by omega)
        go_wp2_with fail
        go_end0
        exact ⟨rfl, by rw [← HE.out]; rw [HT.out] at hown2; exact hown2, hg2⟩
end Go.Proofs.YtedpnjbbcfiheaaGreatDoor

/- Walk of seenBit. -/
import Derived.Test.YtedpnjbbcfiheaaGreatDoorW13
set_option linter.unusedVariables false
namespace Go.Proofs.YtedpnjbbcfiheaaGreatDoor
open Go.RowKit Go.Sc
def byteAt (ss : List ByteArray) (n v : Nat) : UInt8 := (ss[n]?.getD ByteArray.empty).data.toList[v]?.getD 0
def onesIn (ss : List ByteArray) (ns : List Int) (v : Nat) : Int := (ns.map fun n => ((byteAt ss n.toNat v).toNat : Int) - 48).sum
def seenV (ss : List ByteArray) (k : Int) (ns : List Int) (net v : Nat) : UInt8 :=
  if conB ns net = false then byteAt ss net v
  else if k = 5 then byteAt ss (ns[0]?.getD 0).toNat v
  else if k = 2 ∨ k = 6 then 49
  else if k = 3 then (if onesIn ss ns v = ns.length then 49 else 48)
  else if k = 4 then (if 0 < onesIn ss ns v then 49 else 48)
  else 48
theorem byteAt_eq {ss : List ByteArray} {n v : Nat} {s : ByteArray} (h : ss[n]? = some s) (hv : v < s.size) : byteAt ss n v = s[v]'hv := by
  unfold byteAt
  rw [h]
  show (s.data.toList[v]?).getD 0 = _
  rw [List.getElem?_eq_getElem (by simpa using hv)]
  rfl
theorem byteAt_01 {ss : List ByteArray} {n v : Nat} {s : ByteArray} (h : ss[n]? = some s) (hv : v < s.size) (hb : bits01 s = true) : byteAt ss n v = 48 ∨ byteAt ss n v = 49 := by
  rw [byteAt_eq h hv]
  exact bits01_at hb v hv
theorem sum_snoc (l : List Int) (x : Int) : (l ++ [x]).sum = l.sum + x := by
  induction l with
  | nil => simp
  | cons y l ih => simp only [List.cons_append, List.sum_cons, ih]; omega
set_option maxRecDepth 100000 in
set_option maxHeartbeats 1000000 in
theorem seenBit_any (tv fv : Value) (n : Nat) (ss : List ByteArray) (k : Int) (ns : List Int) (net v z : Nat) (w : World) (hr : Rd w 1 tv n (ss.map .string)) (hf : FV w fv k ns) (hok : okTest ss) (hz : ∀ s ∈ ss, s.size = z) (hn : n ≤ 100)
    (hfo : FOk n k ns) (hnet : net < n) (hv : v < z) :
    Calls Tryz.prog 128 #[tv, fv, .int .i64 net, .int .i64 v] w fun e w' => e = .returned (.int .u8 ((seenV ss k ns net v).toNat : Int)) ∧ Below w.heap.size w w' := by
  have hl : ss.length = n := by have := hr.len; simpa using this
  have hget : ∀ i, i < n → ∃ s, ss[i]? = some s ∧ s.size = z ∧ bits01 s = true := fun i hi => by
    refine ⟨ss[i]'(by omega), List.getElem?_eq_getElem _, hz _ (List.getElem_mem _), (hok _ (List.getElem_mem _)).2⟩
  obtain ⟨A, c, rfl, h1, h2, h3, h4⟩ := hr
  obtain ⟨b, off, rfl, hc⟩ := h4 (by omega)
  obtain ⟨nv, rfl, hnv⟩ := hf
  have hbl : Below w.heap.size w (w.alloc (.cells #[.int .i64 k, nv] 60)) := (Below.refl _ _).alloc (Nat.le_refl _) _
  have HNV := Lib.hid (hnv.below hbl)
  obtain ⟨A2, c2, rfl, g1, g2, g3, g4⟩ := hnv
  obtain ⟨b2, off2, rfl, hc2⟩ := g4 (by have := hfo.one; omega)
  have HC : Hid (∀ i s, ss[i]? = some s → (w.alloc (.cells #[.int .i64 k, .slice (some ⟨b2, off2, none⟩) ns.length c2] 60)).cell? ⟨b, off + i, none⟩ = some (.string s)) := fun i s hs =>
    cell_below hbl _ _ (hc i (.string s) (by simp [hs]))
  have HC2 : Hid (∀ i, i < ns.length → (w.alloc (.cells #[.int .i64 k, .slice (some ⟨b2, off2, none⟩) ns.length c2] 60)).cell? ⟨b2, off2 + i, none⟩ = some (.int .i64 (ns[i]?.getD 0))) := fun i hi =>
    cell_below hbl _ _ (hc2 i _ (getD_map_int _ _ _ hi))
  have HNS : Hid (∀ i, i < ns.length → 0 ≤ ns[i]?.getD 0 ∧ ns[i]?.getD 0 < n) := fun i hi => by
    rw [List.getElem?_eq_getElem hi]; exact hfo.nets _ (List.getElem_mem _)
  have hm1 := hfo.one
  have hm6 := hfo.six
  have HG := Lib.hid hget
  have HK0 : Hid ((w.alloc (.cells #[.int .i64 k, .slice (some ⟨b2, off2, none⟩) ns.length c2] 60)).cell? ⟨w.heap.size, 0, none⟩ = some (.int .i64 k)) := by show _ = _; rw [World.cell?_alloc_at _ _ _ _ rfl]; rfl
  have HK1 : Hid ((w.alloc (.cells #[.int .i64 k, .slice (some ⟨b2, off2, none⟩) ns.length c2] 60)).cell? ⟨w.heap.size, 1, none⟩ = some (.slice (some ⟨b2, off2, none⟩) ns.length c2)) := by show _ = _; rw [World.cell?_alloc_at _ _ _ _ rfl]; rfl
  clear hget hc hc2 h3 h4 g3 g4 hl
  cases hcon : conB ns net
  case false =>
    have HX : Hid (seenV ss k ns net v = byteAt ss net v) := by show _ = _; rw [seenV, if_pos hcon]
    obtain ⟨s, hs1, hs2, hs3⟩ := HG.out net hnet
    have hvs : v < s.size := by omega
    have HB := Lib.hid (byteAt_eq hs1 hvs)
    have c1 := HC.out net s hs1
    clear hs1 hs2 hs3
    go_enter Tryz.func128, Tryz.ntmps128
    go_wp2_with (go_at_call 44; refine (Contains_any _ _ ns _ _ HNV.out (by omega)).mono ?_; rintro e w' ⟨rfl, rfl⟩)
    go_ret
    exact ⟨ret_int (by rw [HX.out, HB.out]), hbl⟩
  case true =>
  have HX : Hid (seenV ss k ns net v = if k = 5 then byteAt ss (ns[0]?.getD 0).toNat v
    else if k = 2 ∨ k = 6 then 49
    else if k = 3 then (if onesIn ss ns v = ns.length then 49 else 48)
    else if k = 4 then (if 0 < onesIn ss ns v then 49 else 48) else 48) := by show _ = _; rw [seenV, if_neg (by rw [hcon]; decide)]
  have HON : Hid (onesIn ss ns v = (ns.map fun n => ((byteAt ss n.toNat v).toNat : Int) - 48).sum) := rfl
  have HTK : Hid (∀ m, m = ns.length → ns.take m = ns) := fun m h => by rw [h]; exact List.take_length
  have HT : Hid (∀ j, j < ns.length → ns.take (j + 1) = ns.take j ++ [ns[j]?.getD 0]) := fun j hj => take_getD ns 0 j hj
  go_enter Tryz.func128, Tryz.ntmps128
  go_wp2_with (go_at_call 44; refine (Contains_any _ _ ns _ _ HNV.out (by omega)).mono ?_; rintro e w' ⟨rfl, rfl⟩)
  generalize ns.length = m at *
  generalize (w.alloc (.cells #[.int .i64 k, .slice (some ⟨b2, off2, none⟩) m c2] 60)) = W at *
  have k0 := HK0.out
  have k1 := HK1.out
  go_loop [9, 27] (fun x i => ∃ j : Nat, ∃ q : Int, j ≤ m ∧ i = .int .i64 j ∧ x = .int .i64 q ∧ 0 ≤ q ∧ q ≤ j ∧ Hid (q = onesIn ss (ns.take j) v)) (fun _ i => m - (intOf i).toNat)
  case atStart => exact ⟨0, 0, by omega, rfl, rfl, by omega, by omega, rfl⟩
  case round =>
    obtain ⟨j, q, hj, rfl, rfl, hq0, hq1, HQ⟩ := hrel
    by_cases hlt : j < m
    · have e1 := HC2.out j hlt
      obtain ⟨e2, e3⟩ := HNS.out j hlt
      have HTJ := Lib.hid (HT.out j hlt)
      generalize ns[j]?.getD 0 = x at *
      obtain ⟨x, rfl⟩ := Int.eq_ofNat_of_zero_le e2
      obtain ⟨s, hs1, hs2, hs3⟩ := HG.out x (by omega)
      have c1 := HC.out x s hs1
      have hvs : v < s.size := by omega
      have HB := Lib.hid (byteAt_eq hs1 hvs)
      have h01 := bits01_at hs3 v hvs
      have hb1 : 48 ≤ ((s[v]'hvs).toNat : Int) := by rcases h01 with h | h <;> rw [h] <;> decide
      have hb2 : ((s[v]'hvs).toNat : Int) ≤ 49 := by rcases h01 with h | h <;> rw [h] <;> decide
      have HQ2 : Hid (q + (((s[v]'hvs).toNat : Int) - 48) = onesIn ss (ns.take (j + 1)) v) := by
        show _ = _
        rw [HTJ.out, onesIn, List.map_append, List.map_cons, List.map_nil, sum_snoc, HQ.out, onesIn, show (((x : Nat) : Int)).toNat = x from rfl, HB.out]
      clear hs1 hs2 hs3 h01
      go_wp2_with fail
      go_round
      case rel => exact ⟨j + 1, q + (((s[v]'hvs).toNat : Int) - 48), by omega, by go_num, by rfl, by omega, by omega, HQ2⟩
      case measure => simp [intOf]; omega
    · obtain rfl : j = m := by omega
      have HQ2 : Hid (onesIn ss ns v = q) := by show _ = _; rw [HQ.out, HTK.out j rfl]
      have HX2 : Hid (seenV ss k ns net v = if k = 5 then byteAt ss (ns[0]?.getD 0).toNat v
        else if k = 2 ∨ k = 6 then 49
        else if k = 3 then (if q = j then 49 else 48)
        else if k = 4 then (if 0 < q then 49 else 48) else 48) := by show _ = _; rw [HX.out, HQ2.out]
      clear HX HQ HON
      have e : k = 5 ∨ k = 2 ∨ k = 6 ∨ k = 3 ∨ k = 4 ∨ (k ≠ 5 ∧ k ≠ 2 ∧ k ≠ 6 ∧ k ≠ 3 ∧ k ≠ 4) := by omega
      rcases e with rfl | rfl | rfl | rfl | rfl | ⟨k5, k2, k6, k3, k4⟩
      · have HX3 : Hid (seenV ss 5 ns net v = byteAt ss (ns[0]?.getD 0).toNat v) := by show _ = _; rw [HX2.out]; rfl
        have e1 : W.cell? ⟨b2, off2, none⟩ = some (.int .i64 (ns[0]?.getD 0)) := by have := HC2.out 0 (by omega); simpa using this
        obtain ⟨e2, e3⟩ := HNS.out 0 (by omega)
        generalize ns[0]?.getD 0 = x at *
        obtain ⟨x, rfl⟩ := Int.eq_ofNat_of_zero_le e2
        obtain ⟨s, hs1, hs2, hs3⟩ := HG.out x (by omega)
        have c1 := HC.out x s hs1
        have hvs : v < s.size := by omega
        have HB := Lib.hid (byteAt_eq hs1 hvs)
        have hj0 : 0 < j := by omega
        clear hs1 hs2 hs3 HX2
        go_wp2_with fail
        go_ret
        exact ⟨ret_int (by rw [HX3.out, show (((x : Nat) : Int)).toNat = x from rfl, HB.out]), hbl⟩
      · have HX3 : Hid (seenV ss 2 ns net v = 49) := by show _ = _; rw [HX2.out]; rfl
        go_wp2_with fail
        go_ret
        exact ⟨ret_int (by rw [HX3.out]; rfl), hbl⟩
      · have HX3 : Hid (seenV ss 6 ns net v = 49) := by show _ = _; rw [HX2.out]; rfl
        go_wp2_with fail
        go_ret
        exact ⟨ret_int (by rw [HX3.out]; rfl), hbl⟩
      · have HX3 : Hid (seenV ss 3 ns net v = if q = j then 49 else 48) := by show _ = _; rw [HX2.out]; rfl
        by_cases hqj : q = j
        · have HX4 : Hid (seenV ss 3 ns net v = 49) := by show _ = _; rw [HX3.out, if_pos hqj]
          have eb : (q == (j : Int)) = true := beq_iff_eq.2 hqj
          clear hqj HX3 HX2
          go_wp2_with fail
          go_ret
          exact ⟨ret_int (by rw [HX4.out]; rfl), hbl⟩
        · have HX4 : Hid (seenV ss 3 ns net v = 48) := by show _ = _; rw [HX3.out, if_neg hqj]
          have eb : (q == (j : Int)) = false := beq_eq_false_iff_ne.2 hqj
          clear hqj HX3 HX2
          go_wp2_with fail
          go_ret
          exact ⟨ret_int (by rw [HX4.out]; rfl), hbl⟩
      · have HX3 : Hid (seenV ss 4 ns net v = if 0 < q then 49 else 48) := by show _ = _; rw [HX2.out]; rfl
        by_cases hqj : 0 < q
        · have HX4 : Hid (seenV ss 4 ns net v = 49) := by show _ = _; rw [HX3.out, if_pos hqj]
          clear HX3 HX2
          go_wp2_with fail
          go_ret
          exact ⟨ret_int (by rw [HX4.out]; rfl), hbl⟩
        · have HX4 : Hid (seenV ss 4 ns net v = 48) := by show _ = _; rw [HX3.out, if_neg hqj]
          clear HX3 HX2
          go_wp2_with fail
          go_ret
          exact ⟨ret_int (by rw [HX4.out]; rfl), hbl⟩
      · have HX3 : Hid (seenV ss k ns net v = 48) := by show _ = _; rw [HX2.out]; simp [k5, k2, k6, k3, k4]
        have b1 : (k == 5) = false := by simp [k5]
        have b2' : (k == 2) = false := by simp [k2]
        have b3 : (k == 6) = false := by simp [k6]
        have b4 : (k == 3) = false := by simp [k3]
        have b5 : (k == 4) = false := by simp [k4]
        clear k5 k2 k6 k3 k4 HX2
        go_wp2_with fail
        go_ret
        exact ⟨ret_int (by rw [HX3.out]; rfl), hbl⟩
end Go.Proofs.YtedpnjbbcfiheaaGreatDoor

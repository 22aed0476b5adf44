/- Plain law: the mask of a fault has the bits of the vectors that catch it. -/
import Derived.Test.YtedpnjbbcfiheaaGreatDoorP2
set_option linter.unusedVariables false
namespace Go.Proofs.YtedpnjbbcfiheaaGreatDoor
open Go.RowKit Go.Sc Go.Sort
theorem row_bit (ss : List ByteArray) (i v : Nat) : ((rowsN ss)[i]?.getD 0).testBit v = decide (byteAt ss i v = 49) := by
  unfold rowsN byteAt
  rw [List.getElem?_map]
  cases h : ss[i]? with
  | none => simp
  | some s =>
    simp only [Option.map_some, Option.getD_some]
    rw [rowN_bit, decide_eq_decide]
    generalize s.data.toList[v]? = o
    cases o with
    | none => simp
    | some c => simp
theorem put_get (x : Nat) : ∀ (ns : List Int) (rs : List Nat) (i : Nat), i < rs.length → (∀ n ∈ ns, 0 ≤ n) → (putN rs ns x)[i]?.getD 0 = if conB ns i = true then x else rs[i]?.getD 0
  | [], rs, i, hi, _ => by simp [putN, conB]
  | n :: ns, rs, i, hi, h => by
    have h0 := h n (List.mem_cons_self ..)
    have : putN rs (n :: ns) x = putN (rs.set n.toNat x) ns x := rfl
    rw [this, put_get x ns _ i (by simpa using hi) fun m hm => h m (List.mem_cons_of_mem _ hm)]
    unfold conB
    rw [List.contains_cons]
    by_cases hc : ns.contains (i : Int) = true
    · rw [if_pos hc, hc, Bool.or_true, if_pos rfl]
    · rw [if_neg hc]
      by_cases e : n = (i : Int)
      · subst e; simp [hi]
      · have e2 : n.toNat ≠ i := by omega
        have e3 : ((i : Int) == n) = false := beq_eq_false_iff_ne.2 (fun e4 => e e4.symm)
        rw [e3, Bool.false_or, if_neg hc, List.getElem?_set_ne e2]
theorem sum01 (f : Int → Int) : ∀ (ns : List Int), (∀ n ∈ ns, f n = 0 ∨ f n = 1) → 0 ≤ (ns.map f).sum ∧ (ns.map f).sum ≤ ns.length ∧ ((ns.map f).sum = ns.length ↔ ∀ n ∈ ns, f n = 1) ∧ (0 < (ns.map f).sum ↔ ∃ n ∈ ns, f n = 1)
  | [], _ => by simp
  | n :: ns, h => by
    obtain ⟨h1, h2, h3, h4⟩ := sum01 f ns fun m hm => h m (List.mem_cons_of_mem _ hm)
    rw [List.map_cons, List.sum_cons, List.length_cons]
    rcases h n (List.mem_cons_self ..) with e | e
    · rw [e]
      refine ⟨by omega, by omega, ⟨fun h5 => by omega, fun h5 => ?_⟩, ⟨fun h5 => ?_, fun h5 => ?_⟩⟩
      · have := h5 n (List.mem_cons_self ..); omega
      · obtain ⟨m, hm, e2⟩ := h4.1 (by omega)
        exact ⟨m, List.mem_cons_of_mem _ hm, e2⟩
      · obtain ⟨m, hm, e2⟩ := h5
        rcases List.mem_cons.1 hm with e3 | hm
        · rw [e3] at e2; omega
        · have := h4.2 ⟨m, hm, e2⟩; omega
    · rw [e]
      refine ⟨by omega, by omega, ⟨fun h5 => ?_, fun h5 => ?_⟩, ⟨fun h5 => ⟨n, List.mem_cons_self .., e⟩, fun h5 => by omega⟩⟩
      · have := h3.1 (by omega)
        intro m hm
        rcases List.mem_cons.1 hm with e3 | hm
        · rw [e3, e]
        · exact this m hm
      · have := h3.2 fun m hm => h5 m (List.mem_cons_of_mem _ hm)
        omega
theorem foldl_and_bit (rs : List Nat) (v : Nat) : ∀ (ns : List Int) (a : Nat), (ns.foldl (fun v n => v &&& atN rs n) a).testBit v = (a.testBit v && ns.all fun n => (atN rs n).testBit v)
  | [], a => by simp
  | n :: ns, a => by rw [List.foldl_cons, foldl_and_bit rs v ns, Nat.testBit_and, List.all_cons, Bool.and_assoc]
theorem foldl_or_bit (rs : List Nat) (v : Nat) : ∀ (ns : List Int) (a : Nat), (ns.foldl (fun v n => v ||| atN rs n) a).testBit v = (a.testBit v || ns.any fun n => (atN rs n).testBit v)
  | [], a => by simp
  | n :: ns, a => by rw [List.foldl_cons, foldl_or_bit rs v ns, Nat.testBit_or, List.any_cons, Bool.or_assoc]
theorem head_mem {ns : List Int} (h : 1 ≤ ns.length) : ns[0]?.getD 0 ∈ ns := by
  rw [List.getElem?_eq_getElem (by omega)]
  exact List.getElem_mem _
theorem byte01 {ss : List ByteArray} (hok : okTest ss) {z : Nat} (hz : ∀ s ∈ ss, s.size = z) {i v : Nat} (hi : i < ss.length) (hv : v < z) : byteAt ss i v = 48 ∨ byteAt ss i v = 49 := by
  have hm : ss[i] ∈ ss := List.getElem_mem _
  exact byteAt_01 (List.getElem?_eq_getElem hi) (by rw [hz _ hm]; exact hv) (hok _ hm).2
theorem seen_bit (ss : List ByteArray) (k : Int) (ns : List Int) (z i v : Nat) (hok : okTest ss) (hz : ∀ s ∈ ss, s.size = z) (hfo : FOk ss.length k ns) (hk1 : 1 ≤ k) (hk6 : k ≤ 6) (hi : i < ss.length) (hv : v < z) :
    (seenV ss k ns i v = 48 ∨ seenV ss k ns i v = 49) ∧ ((withN (rowsN ss) k ns (onesN (z : Int)))[i]?.getD 0).testBit v = decide (seenV ss k ns i v = 49) := by
  have hrl : (rowsN ss).length = ss.length := by simp [rowsN]
  unfold withN
  rw [put_get _ ns _ i (by omega) fun n hn => (hfo.nets n hn).1]
  unfold seenV
  by_cases hc : conB ns i = true
  · rw [if_pos hc, if_neg (by rw [hc]; decide)]
    have hat : ∀ n ∈ ns, (atN (rowsN ss) n).testBit v = decide (byteAt ss n.toNat v = 49) := fun n _ => row_bit ss n.toNat v
    have h01 : ∀ n ∈ ns, byteAt ss n.toNat v = 48 ∨ byteAt ss n.toNat v = 49 := fun n hn => by
      obtain ⟨a, b⟩ := hfo.nets n hn
      exact byte01 hok hz (by omega) hv
    have hf01 : ∀ n ∈ ns, ((byteAt ss n.toNat v).toNat : Int) - 48 = 0 ∨ ((byteAt ss n.toNat v).toNat : Int) - 48 = 1 := fun n hn => by
      rcases h01 n hn with e | e <;> rw [e]
      · left; rfl
      · right; rfl
    have hf1 : ∀ n ∈ ns, (((byteAt ss n.toNat v).toNat : Int) - 48 = 1 ↔ byteAt ss n.toNat v = 49) := fun n hn => by
      rcases h01 n hn with e | e <;> rw [e] <;> decide
    obtain ⟨s1, s2, s3, s4⟩ := sum01 (fun n => ((byteAt ss n.toNat v).toNat : Int) - 48) ns hf01
    have hm0 := head_mem hfo.one
    unfold valN
    by_cases k1 : k = 1
    · subst k1; simp
    by_cases k2 : k = 2 ∨ k = 6
    · have k5 : k ≠ 5 := by omega
      rw [if_neg k1, if_pos k2, if_neg k5, if_pos k2, ones_bit]
      exact ⟨.inr rfl, by simp [hv]⟩
    by_cases k3 : k = 3
    · subst k3
      rw [if_neg k1, if_neg k2, if_pos rfl, if_neg (by decide), if_neg k2, if_pos rfl, foldl_and_bit]
      unfold onesIn
      by_cases hall : ∀ n ∈ ns, byteAt ss n.toNat v = 49
      · have e1 := s3.2 fun n hn => (hf1 n hn).2 (hall n hn)
        rw [if_pos e1]
        refine ⟨.inr rfl, ?_⟩
        rw [hat _ hm0, decide_eq_true (hall _ hm0), Bool.true_and, List.all_eq_true.2 fun n hn => by rw [hat n hn]; exact decide_eq_true (hall n hn)]
        rfl
      · have e1 : ¬ (ns.map fun n => ((byteAt ss n.toNat v).toNat : Int) - 48).sum = ns.length := fun e => hall fun n hn => (hf1 n hn).1 (s3.1 e n hn)
        rw [if_neg e1]
        refine ⟨.inl rfl, ?_⟩
        have : (ns.all fun n => (atN (rowsN ss) n).testBit v) = false := by
          rw [← Bool.not_eq_true, List.all_eq_true]
          intro h
          exact hall fun n hn => by have := h n hn; rw [hat n hn] at this; simpa using this
        rw [this, Bool.and_false]
        decide
    by_cases k4 : k = 4
    · subst k4
      rw [if_neg k1, if_neg k2, if_neg k3, if_pos rfl, if_neg (by decide), if_neg k2, if_neg k3, if_pos rfl, foldl_or_bit]
      unfold onesIn
      by_cases hany : ∃ n ∈ ns, byteAt ss n.toNat v = 49
      · have e1 := s4.2 (by obtain ⟨n, hn, e⟩ := hany; exact ⟨n, hn, (hf1 n hn).2 e⟩)
        rw [if_pos e1]
        refine ⟨.inr rfl, ?_⟩
        have : (ns.any fun n => (atN (rowsN ss) n).testBit v) = true := by
          rw [List.any_eq_true]
          obtain ⟨n, hn, e⟩ := hany
          exact ⟨n, hn, by rw [hat n hn]; exact decide_eq_true e⟩
        rw [this, Bool.or_true]
        rfl
      · have e1 : ¬ 0 < (ns.map fun n => ((byteAt ss n.toNat v).toNat : Int) - 48).sum := fun e => by
          obtain ⟨n, hn, e2⟩ := s4.1 e
          exact hany ⟨n, hn, (hf1 n hn).1 e2⟩
        rw [if_neg e1]
        refine ⟨.inl rfl, ?_⟩
        have hno : ∀ n ∈ ns, (atN (rowsN ss) n).testBit v = false := fun n hn => by
          rw [hat n hn]; exact decide_eq_false fun e => hany ⟨n, hn, e⟩
        have : (ns.any fun n => (atN (rowsN ss) n).testBit v) = false := by
          rw [List.any_eq_false]
          intro n hn
          rw [hno n hn]; decide
        rw [this, hno _ hm0]
        decide
    have k5 : k = 5 := by omega
    subst k5
    rw [if_neg k1, if_neg k2, if_neg k3, if_neg k4, if_pos rfl]
    exact ⟨h01 _ hm0, hat _ hm0⟩
  · rw [if_neg hc, if_pos (by simpa using hc)]
    exact ⟨byte01 hok hz hi hv, row_bit ss i v⟩
theorem det_bit (rs : List Nat) (k : Int) (ns : List Int) (ones v : Nat) : (detN rs k ns ones).testBit v = (List.range rs.length).any fun i => ((withN rs k ns ones)[i]?.getD 0).testBit v != (rs[i]?.getD 0).testBit v := by
  unfold detN
  have : ∀ (l : List Nat) (a : Nat), (l.foldl (fun a i => a ||| ((withN rs k ns ones)[i]?.getD 0 ^^^ rs[i]?.getD 0)) a).testBit v = (a.testBit v || l.any fun i => ((withN rs k ns ones)[i]?.getD 0).testBit v != (rs[i]?.getD 0).testBit v) := by
    intro l
    induction l with
    | nil => simp
    | cons i l ih =>
      intro a
      rw [List.foldl_cons, ih, List.any_cons, Nat.testBit_or, Nat.testBit_xor, Bool.or_assoc]
  rw [this]
  simp
theorem resp_byte (ss : List ByteArray) (k : Int) (ns : List Int) (z n i v : Nat) (hi : i < n) (hv : v < z) : byteAt (respR ss k ns z n) i v = seenV ss k ns i v := by
  unfold byteAt
  rw [respR_get ss k ns z n i hi]
  show ((respL ss k ns i z).toArray.toList[v]?).getD 0 = _
  unfold respL
  simp [hv]
theorem any_congr {l : List Nat} {p q : Nat → Bool} (h : ∀ x ∈ l, p x = q x) : l.any p = l.any q := by
  induction l with
  | nil => rfl
  | cons x l ih => rw [List.any_cons, List.any_cons, h x (List.mem_cons_self ..), ih fun y hy => h y (List.mem_cons_of_mem _ hy)]
theorem with_hi (rs : List Nat) (k : Int) (ns : List Int) (z v i : Nat) (hi : i < rs.length) (hns : ∀ n ∈ ns, 0 ≤ n) (hrs : ∀ i : Nat, (rs[i]?.getD 0).testBit v = false) (hv : z ≤ v) : ((withN rs k ns (onesN (z : Int)))[i]?.getD 0).testBit v = false := by
  unfold withN
  rw [put_get _ ns _ i hi hns]
  split
  · unfold valN
    split
    · simp
    split
    · rw [ones_bit]; simp; omega
    split
    · rw [foldl_and_bit]; unfold atN; rw [hrs]; rfl
    split
    · rw [foldl_or_bit]; unfold atN; simp [hrs]
    · exact hrs _
  · exact hrs i
theorem cat_eq (ss : List ByteArray) (k : Int) (ns : List Int) (z : Nat) (hok : okTest ss) (hz : ∀ s ∈ ss, s.size = z) (hh : (ss.headD ByteArray.empty).size = z) (hfo : FOk ss.length k ns) (hk1 : 1 ≤ k) (hk6 : k ≤ 6) :
    detN (rowsN ss) k ns (onesN (z : Int)) < 2 ^ z ∧ catL ss k ns = bitsL (detN (rowsN ss) k ns (onesN (z : Int))) z := by
  have hrl : (rowsN ss).length = ss.length := by simp [rowsN]
  constructor
  · refine Nat.lt_pow_two_of_testBit _ fun v hv => ?_
    have hrs : ∀ i : Nat, ((rowsN ss)[i]?.getD 0).testBit v = false := fun i => by
      rw [row_bit]
      refine decide_eq_false fun e => ?_
      unfold byteAt at e
      cases h : ss[i]? with
      | none => rw [h] at e; simp at e
      | some s =>
        rw [h] at e
        have hs := hz s (List.mem_of_getElem? h)
        rw [Option.getD_some, List.getElem?_eq_none (Nat.le_trans (Nat.le_of_eq (show s.data.toList.length = z from (show s.data.toList.length = s.size by simp).trans hs)) hv)] at e
        cases e
    rw [det_bit, List.any_eq_false]
    intro i hi
    rw [hrs i, with_hi _ k ns z v i (List.mem_range.1 hi) (fun n hn => (hfo.nets n hn).1) hrs hv]
    decide
  · unfold catL hitL bitsL
    rw [hh]
    congr 1
    refine List.filter_congr fun v hv => ?_
    have hv := List.mem_range.1 hv
    rw [det_bit, hrl]
    unfold hitB
    refine any_congr fun i hi => ?_
    have hi := List.mem_range.1 hi
    obtain ⟨h1, h2⟩ := seen_bit ss k ns z i v hok hz hfo hk1 hk6 hi hv
    rw [resp_byte ss k ns z _ i v hi hv, h2, row_bit]
    rcases h1 with e | e <;> rcases byte01 hok hz hi hv with e2 | e2 <;> rw [e, e2] <;> decide
end Go.Proofs.YtedpnjbbcfiheaaGreatDoor

import Derived.Test.YtedpnjbbcfiheaaGreatDoorFLB05
import Derived.Test.YtedpnjbbcfiheaaGreatDoorFLB15
set_option linter.unusedSimpArgs false
set_option linter.unusedSectionVars false
set_option linter.unusedVariables false
/- strconv.AppendUint in base 36. -/
set_option linter.unusedVariables false
namespace Go.Proofs.YtedpnjbbcfiheaaGreatDoor
open Go.RowKit Go.Sc
def dig36 (c : Nat) : UInt8 := if c < 10 then UInt8.ofNat (48 + c) else UInt8.ofNat (87 + c)
def fmt36 (n : Nat) : List UInt8 := if h : n < 36 then [dig36 n] else fmt36 (n / 36) ++ [dig36 (n % 36)]
termination_by n
decreasing_by omega
theorem fmt36_lt (n : Nat) (h : n < 36) : fmt36 n = [dig36 n] := by rw [fmt36, dif_pos h]
theorem fmt36_ge (n : Nat) (h : 36 ≤ n) : fmt36 n = fmt36 (n / 36) ++ [dig36 (n % 36)] := by rw [fmt36, dif_neg (by omega)]
def digs36 : List UInt8 := [48, 49, 50, 51, 52, 53, 54, 55, 56, 57, 97, 98, 99, 100, 101, 102, 103, 104, 105, 106, 107, 108, 109, 110, 111, 112, 113, 114, 115, 116, 117, 118, 119, 120, 121, 122]
theorem digs36_at : ∀ c, c < 36 → digs36[c]?.getD 0 = dig36 c := by decide +kernel
theorem dig_at (c : Nat) (h : c < ({ data := #[48, 49, 50, 51, 52, 53, 54, 55, 56, 57, 97, 98, 99, 100, 101, 102, 103, 104, 105, 106, 107, 108, 109, 110, 111, 112, 113, 114, 115, 116, 117, 118, 119, 120, 121, 122] } : ByteArray).size) : ({ data := #[48, 49, 50, 51, 52, 53, 54, 55, 56, 57, 97, 98, 99, 100, 101, 102, 103, 104, 105, 106, 107, 108, 109, 110, 111, 112, 113, 114, 115, 116, 117, 118, 119, 120, 121, 122] } : ByteArray)[c]'h = dig36 c := by
  have hc : c < 36 := h
  have e : ({ data := #[48, 49, 50, 51, 52, 53, 54, 55, 56, 57, 97, 98, 99, 100, 101, 102, 103, 104, 105, 106, 107, 108, 109, 110, 111, 112, 113, 114, 115, 116, 117, 118, 119, 120, 121, 122] } : ByteArray)[c]'h = digs36[c]'hc := rfl
  rw [e]
  have := digs36_at c hc
  rwa [List.getElem?_eq_getElem hc] at this
theorem pow36 : 18446744073709551616 ≤ 36 ^ 13 := by decide
set_option maxRecDepth 100000 in
theorem pow2_36 (w : World) : Calls Tryz.prog 238 #[.int .i64 36] w fun e w' => e = .returned (.bool false) ∧ w = w' := by
  have hb : (bits .and .i64 36 35 == 0) = false := by decide
  go_enter Tryz.func238, Tryz.ntmps238
  go_wp2
  go_ret
  exact ⟨rfl, rfl⟩
section
variable {P : Program} {ops : Array Oper} {rest : List Oper} {o : Oper} {a : Act} {Q : Exit → Act → World → Prop}
/-- append(v, y..): y lies somewhere else. -/
theorem app_src {W : World} (base : Nat) (hgd : o.guard = none) (s x : Operand) (t e : TypeId) (z : Value) (size bytes : Nat)
    (ho : o.op = .call { callee := .builtin .append, args := #[s, x], argTypes := #[t, t] })
    (ht : P.underlying t = some (.slice e)) (hinfo : (P.info? e).map (fun i => (i.zero, i.size, i.bytes)) = some (some z, size, bytes)) (hz : z.cells.size = size) (hs0 : 0 < size) (hb0 : 0 < bytes)
    (v : Value) (n : Nat) (xs : List Value) (HO : W.ownsRow base e size v n xs) (f off m c : Nat) (cs : List Value) (hs : a.eval s = v) (hx : a.eval x = .slice (some ⟨f, off, none⟩) m c) (hcs : cs.length = m * size) (hn : ∀ j u, cs[j]? = some u → W.cell? ⟨f, off + j, none⟩ = some u) (h1 : ∀ u ∈ cs, u.oneCell' = true)
    (hbase : base ≤ W.heap.size) (hl : (n + m) * bytes ≤ 140737488355328)
    (h : ∀ v1 w1, w1.ownsRow base e size v1 (n + m) (xs ++ cs) → W.grownBy w1 v.ownBlock → (v1.ownBlock = v.ownBlock ∨ ∃ b, v1.ownBlock = some b ∧ W.heap.size ≤ b) → wpList P ops Q rest (a.put o.dst v1) w1) :
    wpList P ops Q (o :: rest) a W := by
  obtain ⟨i0, hi, hzz⟩ := Option.map_eq_some_iff.1 hinfo
  simp only [Prod.mk.injEq] at hzz
  obtain ⟨hz0, hz1, hz2⟩ := hzz
  have hlen : n + m ≤ 140737488355328 := Nat.le_trans (Nat.le_mul_of_pos_right _ hb0) hl
  refine wpList_append_own_at W hgd s x t ho base e i0 z size bytes ht hi hz0 hz1 hz2 hz hs0 v n xs hs HO ⟨f, off, none⟩ m c cs hx hcs
    (fun j u hu => by rw [add_plain]; exact hn j u hu) h1 (by simp only [maxLen]; omega) hl hbase ?_
  intro v1 w1 hown hg _ hat
  refine h v1 w1 hown hg ?_
  rcases hat with hat | hat
  · exact .inl hat
  · exact .inr ⟨_, hat, Nat.le_refl _⟩
end
theorem arr65_len : Tryz.prog.arrayLen 284 = 65 := by kernel_rfl
theorem arr65_elem : Tryz.prog.elem 284 = 5 := by kernel_rfl
theorem arr65_und : Tryz.prog.underlying 284 = some (.array (Tryz.prog.arrayLen 284) (Tryz.prog.elem 284)) := by kernel_rfl
theorem size_u8 (W : World) : (sizeOf 5).run Tryz.prog W = .ok 1 W := by kernel_rfl
theorem slice65 (f k : Nat) (hk : k < 65) (W : World) : (Instr.sliceAt 284 (.pointer (some ⟨f, 0, none⟩)) (some (.int .i64 (k : Int))) none none).run Tryz.prog W = .ok (.slice (some ⟨f, k, none⟩) (65 - k) (65 - k)) W := by
  rw [run_sliceAt_array_l W _ _ arr65_und .i64 (k : Int) (by omega) (by rw [arr65_len]; omega), arr65_elem, size_u8, arr65_len]
  simp only [Result.andThen, slicedAt, Int.toNat_natCast]
  rw [if_neg (by omega), add_plain, Nat.zero_add, Nat.mul_one]
/-- the last cells of the buffer have been written -/
def BufIs (l : List UInt8) (L : List UInt8) : Prop := l.length = 65 ∧ l.drop (65 - L.length) = L ∧ L.length ≤ 65
theorem BufIs.step {l L : List UInt8} (h : BufIs l L) (hl : L.length < 65) (c : UInt8) : BufIs (l.set (64 - L.length) c) (c :: L) := by
  obtain ⟨h1, h2, h3⟩ := h
  refine ⟨by rw [List.length_set, h1], ?_, by simp only [List.length_cons]; omega⟩
  have e : 65 - (c :: L).length = 64 - L.length := by simp only [List.length_cons]; omega
  rw [e, List.drop_eq_getElem_cons (by rw [List.length_set]; omega), List.getElem_set_self]
  congr 1
  rw [List.drop_set_of_lt (by omega), show 64 - L.length + 1 = 65 - L.length by omega]
  exact h2
set_option maxRecDepth 100000 in
set_option maxHeartbeats 2000000 in
theorem fmtBits_any (base : Nat) (v : Value) (n : Nat) (l0 : List UInt8) (u0 : Nat) (w : World) (hown : w.ownsRow base 5 1 v n (u8s l0)) (hb : base ≤ w.heap.size) (hu : u0 < 18446744073709551616) (hn : n ≤ 1000000) :
    Calls Tryz.prog 203 #[v, .int .u64 u0, .int .i64 36, .bool false, .bool true] w fun e w' => ∃ v', e = .returned (.tuple #[v', .string ⟨#[]⟩]) ∧ w'.ownsRow base 5 1 v' (n + (fmt36 u0).length) (u8s (l0 ++ fmt36 u0)) ∧ w.grownBy w' v.ownBlock ∧ (v'.ownBlock = v.ownBlock ∨ ∃ b, v'.ownBlock = some b ∧ w.heap.size ≤ b) := by
  go_enter Tryz.func203, Tryz.ntmps203
  go_wp2_with (go_at_call 238; refine (pow2_36 _).mono ?_; rintro e w' ⟨rfl, rfl⟩)
  obtain ⟨W0, hW0⟩ : ∃ W0, W0 = w.alloc (.cells Tryz.zeroCells284 284) := ⟨_, rfl⟩
  have hbW : Below w.heap.size w W0 := by rw [hW0]; exact (Below.refl _ _).alloc (Nat.le_refl _) _
  have hbuf : W0.ownsRow w.heap.size 284 1 (.slice (some ⟨w.heap.size, 0, none⟩) 65 65) 65 (u8s (List.replicate 65 0)) := by
    rw [hW0]
    refine ⟨by simp [u8s], .inr ⟨w.heap.size, 65, Tryz.zeroCells284, rfl, Nat.le_refl _, heap_alloc_new w _, Nat.le_refl _, by decide, by kernel_rfl, by kernel_rfl⟩⟩
  rw [← hW0]
  clear hW0
  go_loopw [1, 13] (fun x i wr => ∃ (u k : Nat) (L l : List UInt8), x = .int .u64 u ∧ i = .int .i64 k ∧ Hid (fmt36 u0 = fmt36 u ++ L) ∧ u < 18446744073709551616 ∧ u * 36 ^ L.length ≤ u0 ∧ Hid (BufIs l L) ∧ Hid (k + L.length = 65) ∧ 50 ≤ k ∧ k ≤ 65 ∧ wr.ownsRow w.heap.size 284 1 (.slice (some ⟨w.heap.size, 0, none⟩) 65 65) 65 (u8s l) ∧ Below w.heap.size w wr) (fun x _ _ => (intOf x).toNat)
  case atStart => exact ⟨u0, 65, [], _, rfl, rfl, by show _ = _; simp, hu, by simp, ⟨by simp, by simp, by simp⟩, rfl, by omega, by omega, hbuf, hbW⟩
  case round =>
    obtain ⟨u, k, L, l, rfl, rfl, HF, hu64, hpw, HB, HKL, hk1, hk2, hrow, hbel⟩ := hrel
    obtain ⟨k, rfl⟩ : ∃ k', k = k' + 1 := ⟨k - 1, by omega⟩
    have hcell := own_cell_u8 hrow k (by omega)
    have hfz := hrow.frozenAt k
    generalize l[k]?.getD 0 = c0 at hcell
    by_cases h36 : 36 ≤ u
    · have h36i : decide ((36 : Int) ≤ (u : Int)) = true := by simp; omega
      go_wp2_with fail
      have hL12 : L.length ≤ 12 := by
        rcases Nat.lt_or_ge L.length 13 with h | h
        · omega
        · exfalso
          have h1 : 36 ^ 13 ≤ 36 ^ L.length := Nat.pow_le_pow_right (by decide) h
          have h2 : 1 * 36 ^ L.length ≤ u * 36 ^ L.length := Nat.mul_le_mul_right _ (by omega)
          have := pow36
          omega
      have hmod : u - u / 36 * 36 = u % 36 := by omega
      have hF2 : Hid (fmt36 u0 = fmt36 (u / 36) ++ dig36 (u % 36) :: L) := by
        show _ = _
        rw [HF.out, fmt36_ge u h36, List.append_assoc]; rfl
      have hkl := HKL.out
      have hk64 : 64 - L.length = k := by omega
      have HB2 : Hid (BufIs (l.set k (dig36 (u % 36))) (dig36 (u % 36) :: L)) := by
        have := HB.out.step (by omega) (dig36 (u % 36))
        rwa [hk64] at this
      have hrow2 := own_set_u8 hrow k (dig36 (u % 36))
      have hpw2 : u / 36 * 36 ^ (dig36 (u % 36) :: L).length ≤ u0 := by
        rw [List.length_cons, Nat.pow_succ, Nat.mul_comm (36 ^ L.length) 36, ← Nat.mul_assoc]
        exact Nat.le_trans (Nat.mul_le_mul_right _ (by omega)) hpw
      refine ⟨⟨u / 36, k, dig36 (u % 36) :: L, l.set k (dig36 (u % 36)), by simp, rfl, hF2, by omega, hpw2, HB2, by show _ = _; simp only [List.length_cons]; omega, by omega, by omega, ?_, ?_⟩, ?_⟩
      · rw [dig_at, hmod]; exact hrow2
      · exact hbel.setCell (Nat.le_refl _) _
      · simp [intOf]; omega
    · have h36i : decide ((36 : Int) ≤ (u : Int)) = false := by simp; omega
      have hu36 : u < 36 := by omega
      have hkl := HKL.out
      have hk64 : 64 - L.length = k := by omega
      have HF2 : Hid (fmt36 u0 = dig36 u :: L) := by show _ = _; rw [HF.out, fmt36_lt u hu36]; rfl
      have HB2 : Hid (BufIs (l.set k (dig36 u)) (dig36 u :: L)) := by
        have := HB.out.step (by omega) (dig36 u)
        rwa [hk64] at this
      have hrow2 := own_set_u8 hrow k (dig36 u)
      have hbel2 : Below w.heap.size w (wr.setCell ⟨w.heap.size, k, none⟩ (.int .u8 ((dig36 u).toNat : Int))) := hbel.setCell (Nat.le_refl _) _
      have hown2 := own_below hown hbel2
      have hcs : ∀ j x, (u8s (dig36 u :: L))[j]? = some x → (wr.setCell ⟨w.heap.size, k, none⟩ (.int .u8 ((dig36 u).toNat : Int))).cell? ⟨w.heap.size, k + j, none⟩ = some x := by
        intro j x hx
        have hj : j < (dig36 u :: L).length := by have := (List.getElem?_eq_some_iff.1 hx).1; simpa [u8s] using this
        have hj2 : j < L.length + 1 := by simpa using hj
        rw [own_cell_u8 hrow2 (k + j) (by omega)]
        have e1 : (l.set k (dig36 u))[k + j]? = (dig36 u :: L)[j]? := by
          have := HB2.out.2.1
          rw [show 65 - (dig36 u :: L).length = k by simp only [List.length_cons]; omega] at this
          rw [← this, List.getElem?_drop]
        rw [e1]
        unfold u8s at hx
        rw [List.getElem?_map] at hx
        cases hg : (dig36 u :: L)[j]? with
        | none => rw [hg] at hx; cases hx
        | some y => rw [hg] at hx; simpa using hx
      have HCS := Lib.hid hcs
      have hlen : (u8s (dig36 u :: L)).length = (65 - k) * 1 := by simp [u8s]; omega
      have HLEN := Lib.hid hlen
      have hszb : base ≤ (wr.setCell ⟨w.heap.size, k, none⟩ (.int .u8 ((dig36 u).toNat : Int))).heap.size := Nat.le_trans hb hbel2.size
      have hk65 : k < 65 := by omega
      have hdg : ∀ h, ({ data := #[48, 49, 50, 51, 52, 53, 54, 55, 56, 57, 97, 98, 99, 100, 101, 102, 103, 104, 105, 106, 107, 108, 109, 110, 111, 112, 113, 114, 115, 116, 117, 118, 119, 120, 121, 122] } : ByteArray)[u]'h = dig36 u := dig_at u
      have HDG := Lib.hid hdg
      clear hcs hlen hkl hk64 hdg
      have hslice := slice65 w.heap.size k hk65
      go_upto_if 89 with fail
      rw [HDG.out]
      generalize wr.setCell ⟨w.heap.size, k, none⟩ (.int .u8 ((dig36 u).toNat : Int)) = W1 at *
      go_wp2_with (at_builtin; (refine app_src base rfl _ _ 79 5 (.int .u8 0) 1 1 rfl Tryz.underlying79 info_u8 rfl (by decide) (by decide) _ _ _ hown2 w.heap.size k (65 - k) (65 - k) (u8s (dig36 u :: L)) rfl rfl HLEN.out HCS.out (by intro x hx; simp [u8s] at hx; rcases hx with rfl | ⟨y, _, rfl⟩ <;> rfl) hszb (by omega) ?_; intro v1 w1 hown1 hg1 hat))
      go_ret2
      have hkl := HKL.out
      refine ⟨_, rfl, ?_, ?_, ?_⟩
      · rw [HF2.out]
        have e1 : (dig36 u :: L).length = 65 - k := by simp only [List.length_cons]; omega
        rw [e1]
        have e2 : u8s (l0 ++ dig36 u :: L) = u8s l0 ++ u8s (dig36 u :: L) := by simp [u8s]
        rw [e2]
        exact hown1
      · exact ⟨hg1.os.trans hbel2.os, hg1.tape.trans hbel2.tape, hg1.output.trans hbel2.output, Nat.le_trans hbel2.size hg1.size, fun i hi hne => (hg1.block i (Nat.lt_of_lt_of_le hi hbel2.size) hne).trans (hbel2.block i hi)⟩
      · rcases hat with hat | ⟨b, hat, hb2⟩
        · exact .inl hat
        · exact .inr ⟨b, hat, Nat.le_trans hbel2.size hb2⟩
def App36 (w : World) (base : Nat) (v : Value) (n : Nat) (l0 : List UInt8) (u0 : Nat) (w' : World) (v' : Value) : Prop :=
  w'.ownsRow base 5 1 v' (n + (fmt36 u0).length) (u8s (l0 ++ fmt36 u0)) ∧ w.grownBy w' v.ownBlock ∧ (v'.ownBlock = v.ownBlock ∨ ∃ b, v'.ownBlock = some b ∧ w.heap.size ≤ b)
theorem App36i_any (base : Nat) (v : Value) (n : Nat) (l0 : List UInt8) (u0 : Nat) (w : World) (hown : w.ownsRow base 5 1 v n (u8s l0)) (hb : base ≤ w.heap.size) (hu : u0 < 18446744073709551616) (hn : n ≤ 1000000) :
    Calls Tryz.prog 167 #[v, .int .u64 u0, .int .i64 36] w fun e w' => ∃ v', e = .returned v' ∧ App36 w base v n l0 u0 w' v' := by
  have HF := Lib.hid (fmtBits_any base v n l0 u0 w hown hb hu hn)
  clear hown
  go_enter Tryz.func167, Tryz.ntmps167
  go_wp2_with fail
  refine HF.out.mono ?_
  rintro e w1 ⟨v1, rfl, h1, h2, h3⟩
  have HQ : Hid (App36 w base v n l0 u0 w1 v1) := ⟨h1, h2, h3⟩
  clear h1 h2 h3
  go_wp2_with fail
  go_ret
  exact ⟨_, rfl, HQ.out⟩
theorem App36_any (base : Nat) (v : Value) (n : Nat) (l0 : List UInt8) (u0 : Nat) (w : World) (hown : w.ownsRow base 5 1 v n (u8s l0)) (hb : base ≤ w.heap.size) (hu : u0 < 18446744073709551616) (hn : n ≤ 1000000) :
    Calls Tryz.prog 127 #[v, .int .u64 u0, .int .i64 36] w fun e w' => ∃ v', e = .returned v' ∧ App36 w base v n l0 u0 w' v' := by
  have HF := Lib.hid (App36i_any base v n l0 u0 w hown hb hu hn)
  clear hown
  go_enter Tryz.func127, Tryz.ntmps127
  go_wp2_with fail
  refine HF.out.mono ?_
  rintro e w1 ⟨v1, rfl, h1⟩
  go_wp2_with fail
  go_ret
  exact ⟨_, rfl, h1⟩
end Go.Proofs.YtedpnjbbcfiheaaGreatDoor

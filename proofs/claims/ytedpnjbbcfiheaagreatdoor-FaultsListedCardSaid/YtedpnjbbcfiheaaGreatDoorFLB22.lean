import Derived.Test.YtedpnjbbcfiheaaGreatDoorFLB21
import Derived.Test.YtedpnjbbcfiheaaGreatDoorFLB06
set_option linter.unusedSimpArgs false
set_option linter.unusedSectionVars false
set_option linter.unusedVariables false
/- Walks of GroupsOf, ResolutionOf. -/
set_option linter.unusedVariables false
namespace Go.Proofs.YtedpnjbbcfiheaaGreatDoor
open Go.RowKit Go.Sc
def joinK (rs : List ByteArray) : List UInt8 := Lib.join (rs.map (·.data.toList)) [32]
def keyR (ss : List ByteArray) (fs : List (Int × List Int)) (z i : Nat) : List UInt8 := joinK (respR ss (fs[i]?.getD (0, [])).1 (fs[i]?.getD (0, [])).2 z ss.length)
theorem lens_le (xs : List (List UInt8)) (z : Nat) (h : ∀ x ∈ xs, x.length ≤ z) : Lib.lens xs ≤ xs.length * z := by
  induction xs with
  | nil => simp [Lib.lens]
  | cons x xs ih =>
    have h1 := h x (by simp)
    have h2 := ih (fun y hy => h y (by simp [hy]))
    have e : Lib.lens (x :: xs) = x.length + Lib.lens xs := by simp [Lib.lens]
    rw [e, List.length_cons, Nat.add_mul]
    omega
theorem join_len (xs : List (List UInt8)) (z : Nat) (h : ∀ x ∈ xs, x.length ≤ z) : (Lib.join xs [32]).length ≤ xs.length * (z + 1) := by
  cases xs with
  | nil => rw [Lib.join_nil]; simp
  | cons x xs =>
    rw [Lib.join_length]
    have := lens_le (x :: xs) z h
    rw [Nat.mul_add]
    simp only [List.length_cons, List.length_nil] at this ⊢
    omega
theorem respR_len (ss : List ByteArray) (k : Int) (ns : List Int) (z m : Nat) : (respR ss k ns z m).length = m := by simp [respR]
theorem joinK_len (ss : List ByteArray) (k : Int) (ns : List Int) (z m : Nat) : (joinK (respR ss k ns z m)).length ≤ m * (z + 1) := by
  have := join_len ((respR ss k ns z m).map (·.data.toList)) z (fun x hx => by
    simp only [respR, List.map_map, List.mem_map] at hx
    obtain ⟨i, _, rfl⟩ := hx
    simp [respS, respL_len])
  rwa [List.length_map, respR_len] at this
set_option maxRecDepth 100000 in
set_option maxHeartbeats 1000000 in
theorem GroupsOf_any (tv fv : Value) (n : Nat) (ss : List ByteArray) (fs : List (Int × List Int)) (z : Nat) (w : World) (hr : Rd w 1 tv n (ss.map .string)) (hf : RdF w fv fs) (hok : okTest ss) (hz : ∀ s ∈ ss, s.size = z) (hn : n ≤ 100) (hn1 : 1 ≤ n) (hz64 : z ≤ 64)
    (hfo : ∀ f ∈ fs, FOk n f.1 f.2) (hfl : fs.length ≤ 20000) :
    Calls Tryz.prog 33 #[tv, fv] w fun e w' => ∃ v', e = .returned v' ∧ OwnG w' w.heap.size v' (grp (keyR ss fs z) fs.length).2 ∧ Below w.heap.size w w' := by
  have hl : ss.length = n := by have := hr.len; simpa using this
  have HR := Lib.hid hr
  have HOK := Lib.hid hok
  have HZ := Lib.hid hz
  have HFO := Lib.hid hfo
  have HKG : Hid (∀ k f, fs[k]? = some f → keyR ss fs z k = joinK (respR ss f.1 f.2 z n)) := fun k f h => by show keyR ss fs z k = _; unfold keyR; rw [h, hl]; rfl
  have HGL := Lib.hid (grp_len (keyR ss fs z))
  have HGS : Hid (∀ m, grp (keyR ss fs z) (m + 1) = grpStep (grp (keyR ss fs z) m) (keyR ss fs z m) m) := fun m => rfl
  have HG0 : Hid (grp (keyR ss fs z) 0 = ([], [])) := rfl
  have HGB := Lib.hid (grp_sub (keyR ss fs z))
  generalize grp (keyR ss fs z) = G at *
  generalize keyR ss fs z = key at *
  obtain ⟨A2, c2, rfl, f1, f2, f3⟩ := hf
  obtain ⟨A, c, rfl, h1, h2, h3, h4⟩ := hr
  have HF3 := Lib.hid f3
  clear h3 h4 hok hz hfo f3 hl
  have hmm := @run_makeMap Tryz.prog
  go_enter Tryz.func33, Tryz.ntmps33
  go_wp2_with fail
  obtain ⟨W2, hW2⟩ : ∃ W2, W2 = w.alloc (.map #[] 0) := ⟨_, rfl⟩
  have hM2 : MapK W2 w.heap.size [] := by rw [hW2]; exact MapK.made w
  have hb2 : Below w.heap.size w W2 := by rw [hW2]; exact (Below.refl _ _).alloc (Nat.le_refl _) _
  rw [← hW2]
  clear hW2 hmm
  generalize hm : w.heap.size = m0 at *
  have HM := Lib.hid hm
  clear hm
  go_loopw [6, 15] (fun v i wr => ∃ k : Nat, k ≤ fs.length ∧ i = .int .i64 k ∧ OwnG wr (m0 + 1) v (G k).2 ∧ MapK wr m0 (G k).1 ∧ Below m0 w wr) (fun _ i _ => fs.length - (intOf i).toNat)
  case atStart => exact ⟨0, by omega, rfl, by rw [HG0.out]; exact OwnG.nil _ _, by rw [HG0.out]; exact hM2, hb2⟩
  case round =>
    obtain ⟨k, hk, rfl, hown, hmap, hbel⟩ := hrel
    have hm1 := hmap.lt
    by_cases hlt : k < fs.length
    · obtain ⟨b2, off2, rfl, hf2⟩ := HF3.out (by omega)
      obtain ⟨f, hfk⟩ : ∃ f, fs[k]? = some f := ⟨fs[k]'(by omega), List.getElem?_eq_getElem _⟩
      obtain ⟨nv, g1, g2, g3⟩ := hf2 k f hfk
      have hbm : Below w.heap.size w wr := by rw [HM.out]; exact hbel
      have g1' := cell_below hbm _ _ g1
      have g2' := cell_below hbm _ _ g2
      have G3 := Lib.hid g3
      obtain ⟨A3, c3, rfl, _, _, _, _⟩ := g3
      have hfok := Lib.hid (HFO.out f (List.mem_of_getElem? hfk))
      have HKK := Lib.hid (HKG.out k f hfk)
      have HGK := Lib.hid (HGS.out k)
      have HLK := Lib.hid (HGL.out k)
      have HBK := Lib.hid (HGB.out k)
      clear hfk g1 g2 hf2
      generalize key k = s at *
      have hbw : Below wr.heap.size wr (wr.alloc (.cells #[.int .i64 f.1, .slice A3 f.2.length c3] 60)) := (Below.refl _ _).alloc (Nat.le_refl _) _
      have k0 : (wr.alloc (.cells #[.int .i64 f.1, .slice A3 f.2.length c3] 60)).cell? ⟨wr.heap.size, 0, none⟩ = some (.int .i64 f.1) := by rw [World.cell?_alloc_at _ _ _ _ rfl]; rfl
      have k1 : (wr.alloc (.cells #[.int .i64 f.1, .slice A3 f.2.length c3] 60)).cell? ⟨wr.heap.size, 1, none⟩ = some (.slice A3 f.2.length c3) := by rw [World.cell?_alloc_at _ _ _ _ rfl]; rfl
      have hbe : Below w.heap.size w (wr.alloc (.cells #[.int .i64 f.1, .slice A3 f.2.length c3] 60)) := hbm.alloc hbm.size _
      have HFV : Hid (FV (wr.alloc (.cells #[.int .i64 f.1, .slice A3 f.2.length c3] 60)) (.agg #[.int .i64 f.1, .slice A3 f.2.length c3]) f.1 f.2) := ⟨_, rfl, G3.out.below hbe⟩
      have HRE := Lib.hid (ResponseOf_any _ _ n ss f.1 f.2 z _ (HR.out.below hbe) HFV.out HOK.out HZ.out hn hn1 hz64 hfok.out)
      have hbws : (wr.alloc (.cells #[.int .i64 f.1, .slice A3 f.2.length c3] 60)).heap.size = wr.heap.size + 1 := by simp
      have hjl := joinK_len ss f.1 f.2 z n
      have hrl := Lib.hid (respR_len ss f.1 f.2 z n)
      rw [← HKK.out] at hjl
      have hjb : n * (z + 1) ≤ 100 * 65 := Nat.mul_le_mul hn (by omega)
      obtain ⟨rr, hrr⟩ : ∃ rr, rr = respR ss f.1 f.2 z n := ⟨_, rfl⟩
      have HRR := Lib.hid hrr
      rw [← hrr] at HKK hrl
      clear hrr
      go_wp2_with fail
      refine HRE.out.mono ?_
      rintro e w3 ⟨v3, rfl, hown3, hb3⟩
      rw [← HRR.out] at hown3
      obtain ⟨g5, cap5, rfl, hg5, hg6⟩ := hown3.form (by omega)
      have hbx : Below wr.heap.size wr w3 := hbw.trans (hb3.mono (by omega))
      have hO3 := Lib.hid (hown.below hbx)
      have hM3 := Lib.hid (hmap.below hbx)
      have hB3 := Lib.hid (hbel.trans (hbx.mono (by omega)))
      have hcap5 : n ≤ cap5 := by
        rcases hown3.2 with ⟨h, _⟩ | ⟨g', cap', cur', h, _, _, h2, _⟩
        · cases h
        · injection h with _ _ h; omega
      have hgl5 := (own_lt hown3 rfl).2
      have HJ := Lib.hid (Tryz.strings_Join g5 0 cap5 rr ⟨#[32]⟩ w3 (fun j x hx => by
        have hj : j < n := by rw [← hrl.out]; exact (List.getElem?_eq_some_iff.1 hx).1
        rw [Nat.zero_add, hown3.cellAt j (by omega), List.getElem?_map, hx]; rfl) hgl5 (by rw [hrl.out]; omega) (by rw [hrl.out]; omega) (by
          show (joinK rr).length ≤ _
          rw [← HKK.out]; omega))
      rw [hrl.out] at HJ
      clear hown hmap hbel hbm hown3
      go_wp2_with fail
      refine HJ.out.mono ?_
      rintro e w4 ⟨rfl, hb4⟩
      have HJK : Hid ((⟨(Lib.join (rr.map (·.data.toList)) (⟨#[32]⟩ : ByteArray).data.toList).toArray⟩ : ByteArray) = ⟨s.toArray⟩) := by show _ = _; rw [HKK.out]; rfl
      rw [HJK.out]
      have hown := hO3.out.below hb4
      have hmap := hM3.out.below hb4
      have hbel := hB3.out.trans (hb4.mono (by have := hM3.out.lt; omega))
      have hsz6 : m0 + 1 ≤ w4.heap.size := by have := hmap.lt; omega
      obtain ⟨hst, hidx⟩ := grpStep_room (G k) s k HLK.out.1
      have HST := Lib.hid hst
      have HRM : Hid (grpRoom (G k) s = if s ∈ (G k).1 then G k else ((G k).1 ++ [s], (G k).2 ++ [[]])) := rfl
      have hgk : (G k).1.length ≤ k := HLK.out.2
      have HLL := Lib.hid HLK.out.1
      clear hst
      obtain ⟨R1, hR1⟩ : ∃ R1, R1 = grpRoom (G k) s := ⟨_, rfl⟩
      rw [← hR1] at hidx HST HRM
      clear hR1
      have hs14 : s.length ≤ maxLen := by simp only [maxLen]; omega
      obtain ⟨K0, hK0⟩ : ∃ K0, K0 = (G k).1 := ⟨_, rfl⟩
      have HK0 := Lib.hid hK0
      rw [← hK0] at hidx HST hgk HLL hmap
      clear hK0
      have hlf : (G k).2.length ≤ 20000 := by rw [← HLL.out]; omega
      go_upto_if 31 with (first | (at_lookup; refine look_map _ rfl _ _ rfl m0 K0 rfl hmap s rfl hs14 ?_ (by omega); intro i0 bk hbk hi0 hi1))
      go_cut [6, 10] from 31 to 39 (fun vo i wx => i = .int .i64 (K0.idxOf s : Nat) ∧ OwnG wx (m0 + 1) vo R1.2 ∧ MapK wx m0 R1.1 ∧ Below m0 w wx)
      case first =>
        cases bk
        · have hk : s ∉ K0 := by simpa using hbk.out
          have HR1 : Hid (R1 = (K0 ++ [s], (G k).2 ++ [[]])) := by show _ = _; rw [HRM.out, ← HK0.out, if_neg hk]
          have HID : Hid (K0.idxOf s = (G k).2.length) := (List.idxOf_eq_length hk).trans HLL.out
          have HFST : Hid ((G k).1 = K0) := HK0.out.symm
          obtain ⟨us, hul, ho, hels, hd⟩ := hown
          have HUL := Lib.hid hul
          have HELS := Lib.hid hels
          have HD := Lib.hid hd
          obtain ⟨A7, c7, rfl, _, _, _, _⟩ := Rd.of_own ho
          have HV : Hid (∀ w5 : World, w4.grownBy w5 (some m0) → OwnG w5 (m0 + 1) (.slice A7 (G k).2.length c7) (G k).2) := fun w5 hg => OwnG.grown ⟨us, HUL.out, ho, HELS.out, HD.out⟩ hg (fun q hq => by injection hq with hq; omega)
          clear ho hul hels hd hbk
          go_wp2_with (first | (at_mapUpdate; refine put_map _ rfl _ _ _ rfl m0 K0 rfl hmap (by omega) s rfl hs14 hk (by show Value.int _ _ = _; rw [HLL.out]) ?_; intro w5 hM5 hg5'; obtain ⟨us5, hul5, ho5, hels5, hd5⟩ := HV.out w5 hg5'; have hs5 : m0 + 1 ≤ w5.heap.size := Nat.le_trans hsz6 hg5'.size; have HUL5 := Lib.hid hul5; have HELS5 := Lib.hid hels5; have HD5 := Lib.hid hd5; clear hul5 hels5 hd5) | (at_builtin; refine app (m0 + 1) rfl _ _ 52 22 (.slice none 0 0) 1 24 rfl Tryz.underlying52 info_ints2 rfl (by decide) (by decide) _ _ _ ho5 _ 1 rfl rfl rfl (by simp [Value.oneCell']) hs5 (by omega) ?_; intro v8 w8 hown8 hg8 hat8))
          go_meet
          refine ⟨by rw [HID.out], by rw [HR1.out]; exact ownG_new HUL5.out ho5 HELS5.out HD5.out hg8 hat8 (by simpa using hown8), ?_, ?_⟩
          · rw [HR1.out]
            exact hM5.kept hg8 (fun e => by have := (own_lt ho5 e.symm).1; omega)
          · exact (hbel.grown hg5' (by omega) (fun q hq => by injection hq with hq; omega)).grown hg8 (by omega) (fun q hq => by have := (own_lt ho5 hq).1; omega)
        · have hk : s ∈ K0 := by simpa using hbk.out
          have hie := hi0.out hk
          subst hie
          go_wp2_with fail
          go_meet
          have e : R1 = G k := by rw [HRM.out, ← HK0.out, if_pos hk]
          exact ⟨rfl, by rw [e]; exact hown, by rw [e, ← HK0.out]; exact hmap, hbel⟩
      case rest =>
        obtain ⟨rfl, hown2, hmap2, hbel3⟩ := hcut
        have HG1 : Hid (G (k + 1) = (R1.1, R1.2.set (K0.idxOf s) (R1.2[K0.idxOf s]?.getD [] ++ [(k : Int)]))) := HGK.out.trans HST.out
        have hcl : ∀ g, g ∈ R1.2 → g.length ≤ k := fun g hg => by
          rw [HRM.out] at hg
          split at hg
          · exact HBK.out g hg
          · rcases List.mem_append.1 hg with hg | hg
            · exact HBK.out g hg
            · simp at hg; subst hg; simp
        generalize K0.idxOf s = x at *
        obtain ⟨us, hul, ho, hels, hd⟩ := hown2
        obtain ⟨gv, capv, rfl, hgv, hgv2⟩ := ho.form (by omega)
        obtain ⟨cl, hcl2⟩ : ∃ cl, R1.2[x]? = some cl := ⟨_, List.getElem?_eq_getElem hidx⟩
        obtain ⟨u, hu⟩ : ∃ u, us[x]? = some u := ⟨us[x]'(by omega), List.getElem?_eq_getElem _⟩
        have hcx : wc.cell? ⟨gv, x, none⟩ = some u := by rw [ho.cellAt x (by omega)]; exact hu
        have hcll := hcl cl (List.mem_of_getElem? hcl2)
        have hou := (hels x cl u hcl2 hu).1
        have HNB : Hid (∀ q, u.ownBlock = some q → gv ≠ q) := fun q hq e => (hels x cl u hcl2 hu).2 q hq (by rw [e]; rfl)
        have HPUSH : Hid (∀ (w8 : World) (u1 : Value), wc.grownBy w8 u.ownBlock → (u1.ownBlock = u.ownBlock ∨ ∃ b, u1.ownBlock = some b ∧ wc.heap.size ≤ b) → w8.ownsRow (m0 + 1) 3 1 u1 (cl.length + 1) ((cl ++ [(k : Int)]).map (.int .i64)) → OwnG (w8.setCell ⟨gv, x, none⟩ u1) (m0 + 1) (.slice (some ⟨gv, 0, none⟩) R1.2.length capv) (R1.2.set x (cl ++ [(k : Int)]))) := fun w8 u1 hg hat h1 => ownG_push hul ho hels hd hcl2 hu hg hat h1
        have HG2 : Hid (G (k + 1) = (R1.1, R1.2.set x (cl ++ [(k : Int)]))) := by show _ = _; rw [HG1.out, hcl2]; rfl
        have hlen : R1.2.length ≤ 20001 := by
          rw [HRM.out]; split
          · omega
          · simp; omega
        have hszw : m0 + 1 ≤ wc.heap.size := by have := hmap2.lt; omega
        have HO := Lib.hid ho
        have hgvl := (own_lt ho rfl).2
        have HIDX : Hid (x < R1.2.length) := hidx
        clear hels hd hul hu hcl2 hcl ho
        generalize hL : R1.2.length = L at *
        have HL2 := Lib.hid hL
        clear hL
        go_wp2_with (at_builtin; refine app (m0 + 1) rfl _ _ 22 3 (.int .i64 0) 1 8 rfl Tryz.underlying22 info3 rfl (by decide) (by decide) _ _ _ hou _ 1 rfl rfl rfl (by simp [Value.oneCell']) hszw (by omega) ?_; intro v8 w8 hown8 hg8 hat8; obtain ⟨A8, c8, rfl, _, _, _, _⟩ := Rd.of_own hown8; have hv8 := own_grown HO.out hg8 (fun q hq e => HNB.out q hq (by injection e)); have hfz8 := hv8.frozenAt x; have hc8 := hg8.cell hcx (fun e => HNB.out gv e.symm rfl))
        go_roundw
        case rel =>
          have hgs := (hv8.stored x (.slice A8 (cl.length + 1) c8)).2
          refine ⟨k + 1, by omega, by go_num, ?_, ?_, ?_⟩
          · rw [HG2.out]
            exact HPUSH.out w8 _ hg8 hat8 (by simpa using hown8)
          · rw [HG2.out]
            exact (hmap2.kept hg8 (fun e => by have := (own_lt hou e.symm).1; omega)).kept hgs (fun e => by injection e; omega)
          · exact (hbel3.grown hg8 (by omega) (fun q hq => by have := (own_lt hou hq).1; omega)).grown hgs (Nat.le_trans (by omega) hg8.size) (fun q hq => by injection hq; omega)
        case measure => simp [intOf]; omega
    · obtain rfl : k = fs.length := by omega
      go_wp2_with fail
      go_ret
      exact ⟨_, rfl, hown.mono (by rw [HM.out]; omega), by rw [HM.out]; exact hbel⟩
set_option maxRecDepth 100000 in
theorem ResolutionOf_none (tv fv : Value) (fs : List (Int × List Int)) (w : World) (hf : RdF w fv fs) (h1 : fs.length = 0) :
    Calls Tryz.prog 36 #[tv, fv] w fun e w' => e = .returned (.tuple #[frac0, .int .i64 8]) ∧ Below w.heap.size w w' := by
  have hbw : Below w.heap.size w (w.alloc (.cells #[.int .i64 0, .int .i64 0] 49)) := (Below.refl _ _).alloc (Nat.le_refl _) _
  have hbx2 := Box2.new 49 w (.int .i64 0) (.int .i64 0)
  obtain ⟨A2, c2, rfl, _, _, _⟩ := hf
  rw [h1]
  have hbx3 := (hbx2.set0 (.int .i64 0)).set1 (.int .i64 0)
  have c0 := hbx2.cell0
  have c1 := hbx2.cell1
  have cf := hbx2.frozen
  have t0 := hbx3.cell0
  have t1 := hbx3.cell1
  clear h1
  go_enter Tryz.func36, Tryz.ntmps36
  go_wp2_with fail
  refine bodyPost_ret (v := .tuple #[.agg #[.int .i64 0, .int .i64 0], .int .i64 8]) (by simp [results, Tryz.results36, go_sem]) rfl ?_
  first | exact ⟨rfl, hbw⟩ | exact ⟨rfl, (hbw.setCell (Nat.le_refl _) _).setCell (Nat.le_refl _) _⟩
set_option maxRecDepth 100000 in
theorem ResolutionOf_ok (tv fv : Value) (n : Nat) (ss : List ByteArray) (fs : List (Int × List Int)) (z : Nat) (w : World) (hr : Rd w 1 tv n (ss.map .string)) (hf : RdF w fv fs) (hok : okTest ss) (hz : ∀ s ∈ ss, s.size = z) (hn : n ≤ 100) (hn1 : 1 ≤ n) (hz64 : z ≤ 64)
    (hfo : ∀ f ∈ fs, FOk n f.1 f.2) (hfl : fs.length ≤ 20000) (h1 : 1 ≤ fs.length) :
    Calls Tryz.prog 36 #[tv, fv] w fun e w' => e = .returned (.tuple #[fracV (grp (keyR ss fs z) fs.length).2.length fs.length, .int .i64 0]) ∧ Below w.heap.size w w' := by
  have hbw : Below w.heap.size w (w.alloc (.cells #[.int .i64 0, .int .i64 0] 49)) := (Below.refl _ _).alloc (Nat.le_refl _) _
  have HU := Lib.hid (GroupsOf_any tv fv n ss fs z _ (hr.below hbw) (hf.below hbw) hok hz hn hn1 hz64 hfo hfl)
  have hbx := Box2.new 49 w (.int .i64 0) (.int .i64 0)
  have hgl := grp_len (keyR ss fs z) fs.length
  obtain ⟨A2, c2, rfl, _, _, _⟩ := hf
  have e0 : ((fs.length : Int) == 0) = false := beq_eq_false_iff_ne.2 (by omega)
  clear hr hok hz hfo
  go_enter Tryz.func36, Tryz.ntmps36
  go_wp2_with fail
  refine HU.out.mono ?_
  rintro e w1 ⟨v1, rfl, hown, hb1⟩
  have hb2 : Below w.heap.size w w1 := hbw.trans (hb1.mono (by simp))
  have hbx1 := hbx.below hb1
  obtain ⟨A3, c3, rfl, _, _, _⟩ := hown.rdl
  clear hown
  generalize hq : (grp (keyR ss fs z) fs.length).2.length = q at *
  have HQ := Lib.hid hq
  clear hq
  go_wp2_with fail
  refine (Lowest_any _ _ _ (by omega) (by omega) h1).mono ?_
  rintro e w2 ⟨rfl, hb3⟩
  have hbx2 := hbx1.below hb3
  have hbel := hb2.trans (hb3.mono hb2.size)
  have HFR : Hid (fracV q fs.length = .agg #[.int .i64 ((q / Nat.gcd q fs.length : Nat) : Int), .int .i64 ((fs.length / Nat.gcd q fs.length : Nat) : Int)]) := rfl
  rw [HFR.out]
  generalize (q / Nat.gcd q fs.length : Nat) = x at *
  generalize (fs.length / Nat.gcd q fs.length : Nat) = y at *
  have c0 := hbx2.cell0
  have c1 := hbx2.cell1
  have cf := hbx2.frozen
  have hbx3 := (hbx2.set0 (.int .i64 (x : Int))).set1 (.int .i64 (y : Int))
  have t0 := hbx3.cell0
  have t1 := hbx3.cell1
  go_wp2_with fail
  refine bodyPost_ret (v := .tuple #[.agg #[.int .i64 (x : Int), .int .i64 (y : Int)], .int .i64 0]) (by simp [results, Tryz.results36, go_sem, t0, t1]) rfl ?_
  rw [HQ.out, HFR.out]
  exact ⟨rfl, (hbel.setCell (Nat.le_refl _) _).setCell (Nat.le_refl _) _⟩
end Go.Proofs.YtedpnjbbcfiheaaGreatDoor

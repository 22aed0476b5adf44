import Derived.Test.YtedpnjbbcfiheaaGreatDoorFLB18
import Derived.Test.YtedpnjbbcfiheaaGreatDoorFLB19
import Derived.Test.YtedpnjbbcfiheaaGreatDoorFLB03
import Derived.StillTailTactics
import Derived.Deep.CutRange
set_option linter.unusedSimpArgs false
set_option linter.unusedSectionVars false
set_option linter.unusedVariables false
/- Walk of groups. -/
set_option linter.unusedVariables false
namespace Go.Proofs.YtedpnjbbcfiheaaGreatDoor
open Go.RowKit Go.Sc
def keyB (rs : List Nat) : List UInt8 := rs.flatMap fun r => fmt36 r ++ [32]
theorem keyB_take (rs : List Nat) (j : Nat) (h : j < rs.length) : keyB (rs.take (j + 1)) = (keyB (rs.take j) ++ fmt36 (rs[j]?.getD 0)) ++ [32] := by
  unfold keyB
  rw [List.take_succ_eq_append_getElem h, List.flatMap_append, List.getElem?_eq_getElem h]
  simp [List.append_assoc]
theorem fmt36_lenp : ∀ (k n : Nat), n < 36 ^ (k + 1) → (fmt36 n).length ≤ k + 1
  | 0, n, h => by rw [fmt36_lt n (by simpa using h)]; simp
  | k + 1, n, h => by
    by_cases h0 : n < 36
    · rw [fmt36_lt n h0]; simp
    · rw [fmt36_ge n (by omega), List.length_append]
      have := fmt36_lenp k (n / 36) (by rw [Nat.div_lt_iff_lt_mul (by decide)]; exact h)
      simp; omega
theorem fmt36_len13 (n : Nat) (h : n < 18446744073709551616) : (fmt36 n).length ≤ 13 := fmt36_lenp 12 n (Nat.lt_of_lt_of_le h pow36)
theorem keyB_len (rs : List Nat) (h : ∀ r ∈ rs, r < 18446744073709551616) : (keyB rs).length ≤ rs.length * 14 := by
  unfold keyB
  induction rs with
  | nil => simp
  | cons r rs ih =>
    rw [List.flatMap_cons, List.length_append, List.length_append]
    have h1 := fmt36_len13 r (h r (by simp))
    have h2 := ih (fun r hr => h r (by simp [hr]))
    simp only [List.length_cons, List.length_nil]
    omega
def keyG (ss : List ByteArray) (fs : List (Int × List Int)) (i : Nat) : List UInt8 := keyB (withN (rowsN ss) (fs[i]?.getD (0, [])).1 (fs[i]?.getD (0, [])).2 (onesN (ss.headD ByteArray.empty).size))
/-- the groups behind a fault's key: where it lies, and the groups with room for it -/
def grpRoom (st : List (List UInt8) × List (List Int)) (s : List UInt8) : List (List UInt8) × List (List Int) := if s ∈ st.1 then st else (st.1 ++ [s], st.2 ++ [[]])
theorem grpStep_room (st : List (List UInt8) × List (List Int)) (s : List UInt8) (i : Nat) (hl : st.1.length = st.2.length) :
    grpStep st s i = ((grpRoom st s).1, (grpRoom st s).2.set (st.1.idxOf s) ((grpRoom st s).2[st.1.idxOf s]?.getD [] ++ [(i : Int)])) ∧ st.1.idxOf s < (grpRoom st s).2.length := by
  unfold grpStep grpRoom
  by_cases h : s ∈ st.1
  · rw [if_pos h, if_pos h]
    exact ⟨rfl, by rw [← hl]; exact List.idxOf_lt_length_of_mem h⟩
  · rw [if_neg h, if_neg h]
    have e : st.1.idxOf s = st.2.length := by rw [← hl]; exact List.idxOf_eq_length h
    simp only [e]
    refine ⟨?_, by simp⟩
    congr 1
    rw [List.set_append_right _ _ (Nat.le_refl _)]
    simp
theorem room_of {w : World} {base : Nat} {v : Value} {css : List (List Int)} (h : OwnG w base v css) : True := trivial
set_option maxRecDepth 100000 in
set_option maxHeartbeats 1000000 in
theorem groups_any (v fv : Value) (n : Nat) (ss : List ByteArray) (fs : List (Int × List Int)) (w : World) (hr : Rd w 1 v n (ss.map .string)) (hf : RdF w fv fs) (hn1 : 1 ≤ n) (hn : n ≤ 100) (hs : okTest ss) (hok : ∀ f ∈ fs, FOk n f.1 f.2) (hfl : fs.length ≤ 20000) :
    Calls Tryz.prog 78 #[v, fv] w fun e w' => ∃ v', e = .returned v' ∧ OwnG w' w.heap.size v' (grp (keyG ss fs) fs.length).2 ∧ Below w.heap.size w w' := by
  have hl : ss.length = n := by have := hr.len; simpa using this
  have HR0 := Lib.hid hr
  obtain ⟨A, c, rfl, h1, h2, h3, h4⟩ := hr
  obtain ⟨b, off, rfl, hc⟩ := h4 (by omega)
  have hc0 := head_cell (by omega) hc
  have hs64 := head_ok (by omega) hs
  have HKG : Hid (∀ k f, fs[k]? = some f → keyG ss fs k = keyB (withN (rowsN ss) f.1 f.2 (onesN (ss.headD ByteArray.empty).size))) := fun k f h => by show keyG ss fs k = _; unfold keyG; rw [h]; rfl
  have HGL := Lib.hid (grp_len (keyG ss fs))
  have HGS : Hid (∀ m, grp (keyG ss fs) (m + 1) = grpStep (grp (keyG ss fs) m) (keyG ss fs m) m) := fun m => rfl
  have HG0 : Hid (grp (keyG ss fs) 0 = ([], [])) := rfl
  have HGB := Lib.hid (grp_sub (keyG ss fs))
  have HRL : Hid ((rowsN ss).length = n) := by show _ = _; simp [rowsN, hl]
  have HLT := Lib.hid (rowsN_lt ss hs)
  generalize grp (keyG ss fs) = G at *
  generalize keyG ss fs = key at *
  generalize ss.headD ByteArray.empty = s0 at *
  have HF0 := Lib.hid hf
  obtain ⟨A2, c2, rfl, f1, f2, f3⟩ := hf
  have HC := Lib.hid hc
  have HL := Lib.hid hl
  have HF3 := Lib.hid f3
  have HOK := Lib.hid hok
  have hol := ones_lt (s0.size : Int) (by omega)
  clear hc hl h4 h3 f3 hok
  go_enter Tryz.func78, Tryz.ntmps78
  go_wp2_with fail
  refine (rows_any _ n ss w HR0.out hn hs).mono ?_
  rintro e w1 ⟨v1, rfl, hown1, hb1⟩
  have HW1 := Lib.hid (Rd.of_own hown1)
  clear hown1
  have hmm := @run_makeMap Tryz.prog
  go_wp2_with fail
  obtain ⟨W2, hW2⟩ : ∃ W2, W2 = w1.alloc (.map #[] 0) := ⟨_, rfl⟩
  have hM2 : MapK W2 w1.heap.size [] := by rw [hW2]; exact MapK.made w1
  have hb2 : Below w1.heap.size w1 W2 := by rw [hW2]; exact (Below.refl _ _).alloc (Nat.le_refl _) _
  have hsz2 : W2.heap.size = w1.heap.size + 1 := by rw [hW2]; simp
  rw [← hW2]
  clear hW2 hmm
  have hm0 := hb1.size
  have HSZ2 := Lib.hid hsz2
  clear hsz2
  generalize hm : w1.heap.size = m0 at *
  have HM := Lib.hid hm
  clear hm
  go_loopw [7, 20] (fun v i wr => ∃ k : Nat, k ≤ fs.length ∧ i = .int .i64 k ∧ OwnG wr (m0 + 1) v (G k).2 ∧ MapK wr m0 (G k).1 ∧ Below m0 w1 wr) (fun _ i _ => fs.length - (intOf i).toNat)
  case atStart => exact ⟨0, by omega, rfl, by rw [HG0.out]; exact OwnG.nil _ _, by rw [HG0.out]; exact hM2, hb2⟩
  case round =>
    obtain ⟨k, hk, rfl, hown, hmap, hbel⟩ := hrel
    have hm1 := hmap.lt
    by_cases hlt : k < fs.length
    · obtain ⟨b2, off2, rfl, hf2⟩ := HF3.out (by omega)
      obtain ⟨f, hfk⟩ : ∃ f, fs[k]? = some f := ⟨fs[k]'(by omega), List.getElem?_eq_getElem _⟩
      obtain ⟨nv, g1, g2, g3⟩ := hf2 k f hfk
      have hbm : Below w1.heap.size w1 wr := by rw [HM.out]; exact hbel
      have hb3 : Below w.heap.size w wr := hb1.trans (hbel.mono hm0)
      have g1' := cell_below hb3 _ _ g1
      have g2' := cell_below hb3 _ _ g2
      have hc0' := cell_below hb3 _ _ hc0
      have G3 := Lib.hid g3
      obtain ⟨A3, c3, rfl, _, _, _, _⟩ := g3
      have hfok := Lib.hid (HOK.out f (List.mem_of_getElem? hfk))
      have HKK := Lib.hid (HKG.out k f hfk)
      have HGK := Lib.hid (HGS.out k)
      have HLK := Lib.hid (HGL.out k)
      have HBK := Lib.hid (HGB.out k)
      clear hfk g1 g2 hf2
      have hsz : w.heap.size ≤ wr.heap.size := hb3.size
      generalize key k = s at *
      go_upto_region 8 with fail
      obtain ⟨W0, hW0⟩ : ∃ W0, W0 = wr.alloc (.cells #[.int .i64 f.1, .slice A3 f.2.length c3] 60) := ⟨_, rfl⟩
      have hbw : Below wr.heap.size wr W0 := by rw [hW0]; exact (Below.refl _ _).alloc (Nat.le_refl _) _
      have hsz0 : W0.heap.size = wr.heap.size + 1 := by rw [hW0]; simp
      have k0 : W0.cell? ⟨wr.heap.size, 0, none⟩ = some (.int .i64 f.1) := by rw [hW0, World.cell?_alloc_at _ _ _ _ rfl]; rfl
      have k1 : W0.cell? ⟨wr.heap.size, 1, none⟩ = some (.slice A3 f.2.length c3) := by rw [hW0, World.cell?_alloc_at _ _ _ _ rfl]; rfl
      rw [← hW0]
      have hc1 := cell_below hbw _ _ hc0'
      have hbe : Below w.heap.size w W0 := hb3.trans (hbw.mono hsz)
      have HRW : Hid (Rd W0.drew 1 v1 n (u64s (rowsN ss))) := ((HW1.out.below hbm).below hbw).keep (fun p u h => h)
      have HFV : Hid (FV W0.drew (.agg #[.int .i64 f.1, .slice A3 f.2.length c3]) f.1 f.2) := ⟨_, rfl, (G3.out.below hbe).keep (fun p u h => h)⟩
      have HO0 : Hid (OwnG W0.drew (m0 + 1) _ (G k).2) := (hown.below hbw).drew
      have HM0 : Hid (MapK W0.drew m0 (G k).1) := (hmap.below hbw).drew
      have HB0 : Hid (Below m0 w1 W0.drew) := (hbel.trans (hbw.mono (Nat.le_of_lt hm1))).drew
      have hr64 := Lib.hid (withN_lt (rowsN ss) f.1 f.2 (onesN s0.size) HLT.out hol)
      have hrl := Lib.hid ((withN_len (rowsN ss) f.1 f.2 (onesN s0.size)).trans HRL.out)
      have hd3 : (s0.size : Int) ≤ 64 := by omega
      clear hW0 hsz0 hown hmap hbel hbm
      obtain ⟨rs, hrs⟩ : ∃ rs, rs = withN (rowsN ss) f.1 f.2 (onesN s0.size) := ⟨_, rfl⟩
      have HRS := Lib.hid hrs
      rw [← hrs] at HKK hr64 hrl
      clear hrs
      have hszd : m0 + 1 ≤ W0.drew.heap.size := by show m0 + 1 ≤ W0.heap.size; have := hbw.size; omega
      go_cut [31, 32, 33] from 25 to 33 (fun v3 l x wx => l = .int .i64 n ∧ x = .int .i64 0 ∧ wx.ownsRow (m0 + 1) 73 1 v3 n (u64s rs) ∧ OwnG wx (m0 + 1) u7 (G k).2 ∧ MapK wx m0 (G k).1 ∧ Below m0 w1 wx)
      case first =>
        go_region_with (first | (go_at_call 126; refine (respond_any _ _ n (rowsN ss) f.1 f.2 _ W0.drew HRW.out HFV.out hn1 hn hfok.out HLT.out (by omega) hd3).mono ?_; rintro e w3 ⟨v3, rfl, hown3, hb4⟩; obtain ⟨A4, c4, rfl, _, _, _, _⟩ := Rd.of_own hown3))
        all_goals (go_wp2_with fail; go_meet)
        all_goals exact ⟨rfl, rfl, by rw [HRS.out]; exact own_mono hown3 hszd, HO0.out.below hb4, HM0.out.below hb4, HB0.out.trans (hb4.mono (by omega))⟩
      case rest =>
        obtain ⟨rfl, rfl, hrow, hown, hmap, hbel⟩ := hcut
        obtain ⟨g5, cap5, rfl, hg5, hg6⟩ := hrow.form (by omega)
        have hcell : ∀ j, j < n → wc.cell? ⟨g5, j, none⟩ = some (.int .u64 ((rs[j]?.getD 0 : Nat) : Int)) := fun j hj => by rw [hrow.cellAt j (by omega)]; exact u64s_at rs j (by rw [hrl.out]; exact hj)
        have HCELL := Lib.hid hcell
        have HOWN := Lib.hid hown
        have HMAP := Lib.hid hmap
        clear hcell hown hmap hrow
        have hszc : m0 < wc.heap.size := HMAP.out.lt
        have HBL := Lib.hid hbel
        clear hbel
        go_wp2_with fail
        go_loopw [10, 33] (fun x i wr => ∃ j : Nat, j ≤ n ∧ i = .int .i64 j ∧ wr.ownsRow wc.heap.size 5 1 x (keyB (rs.take j)).length (u8s (keyB (rs.take j))) ∧ Below wc.heap.size wc wr) (fun _ i _ => n - (intOf i).toNat)
        case atStart => exact ⟨0, by omega, rfl, by simpa [keyB, u8s] using World.ownsRow_nil _ _ _ _, Below.refl _ _⟩
        case round =>
          obtain ⟨j, hj, rfl, hkey, hbel2⟩ := hrel
          have hkl : (keyB (rs.take j)).length ≤ 1400 := by
            have := keyB_len (rs.take j) (fun r hr => hr64.out r (List.mem_of_mem_take hr))
            rw [List.length_take] at this
            omega
          by_cases hjn : j < n
          · have e1 := cell_below hbel2 _ _ (HCELL.out j hjn)
            have e2 := getD_lt hr64.out j
            have HKT : Hid (keyB (rs.take (j + 1)) = (keyB (rs.take j) ++ fmt36 (rs[j]?.getD 0)) ++ [32]) := keyB_take rs j (by rw [hrl.out]; exact hjn)
            generalize rs[j]?.getD 0 = r at *
            have hfl36 := fmt36_len13 r e2
            generalize keyB (rs.take j) = kb at *
            have hb2s := hbel2.size
            go_wp2_with fail
            refine (App36_any wc.heap.size _ _ kb r wr hkey hb2s e2 (by omega)).mono ?_
            rintro e w6 ⟨v6, rfl, ho6, hg6, hat6⟩
            have hb6 := hbel2.grown hg6 hb2s (fun q hq => (own_lt hkey hq).1)
            have hb6s := hb6.size
            go_wp2_with (at_builtin; refine app wc.heap.size rfl _ _ 79 5 (.int .u8 0) 1 1 rfl Tryz.underlying79 info_u8 rfl (by decide) (by decide) _ _ _ ho6 _ 1 rfl rfl rfl (by simp [Value.oneCell']) hb6s (by omega) ?_; intro v7 w7 hown7 hg7 hat7)
            go_roundw
            case rel => exact ⟨j + 1, by omega, by go_num, by rw [HKT.out]; simpa [u8s, Nat.add_assoc] using hown7, hb6.grown hg7 hb6s (fun q hq => (own_lt ho6 hq).1)⟩
            case measure => simp [intOf]; omega
          · obtain rfl : j = n := by omega
            have hT : rs.take j = rs := List.take_of_length_le (by rw [hrl.out]; exact Nat.le_refl _)
            rw [hT, ← HKK.out] at hkey hkl
            have hcv := own_str (P := Tryz.prog) (src := 79) (dst := 9) Tryz.underlying79 Tryz.underlying5 Tryz.underlying9 hkey
            have hown := HOWN.out.below hbel2
            have hmap := HMAP.out.below hbel2
            have hbel := HBL.out.trans (hbel2.mono (by omega))
            have hsz6 : m0 + 1 ≤ wr.heap.size := by have := hmap.lt; omega
            obtain ⟨hst, hidx⟩ := grpStep_room (G k) s k HLK.out.1
            have HST := Lib.hid hst
            have HRM : Hid (grpRoom (G k) s = if s ∈ (G k).1 then G k else ((G k).1 ++ [s], (G k).2 ++ [[]])) := rfl
            have hgk : (G k).1.length ≤ k := HLK.out.2
            have HLL := Lib.hid HLK.out.1
            have HKEY := Lib.hid hkey
            clear hT hst hkey HCELL
            obtain ⟨R1, hR1⟩ : ∃ R1, R1 = grpRoom (G k) s := ⟨_, rfl⟩
            rw [← hR1] at hidx HST HRM
            clear hR1
            have hs14 : s.length ≤ maxLen := by simp only [maxLen]; omega
            obtain ⟨K0, hK0⟩ : ∃ K0, K0 = (G k).1 := ⟨_, rfl⟩
            have HK0 := Lib.hid hK0
            rw [← hK0] at hidx HST hgk HLL hmap
            clear hK0
            go_upto_if 52 with (first | (at_lookup; refine look_map _ rfl _ _ rfl m0 K0 rfl hmap s rfl hs14 ?_ (by omega); intro i0 bk hbk hi0 hi1))
            have HCSS : Hid (∃ css, css = (G k).2) := ⟨_, rfl⟩
            have hlf : (G k).2.length ≤ 20000 := by rw [← HLL.out]; omega
            have HFS : Hid (∀ wx vo, OwnG wx (m0 + 1) vo R1.2 → R1.2.length ≤ 20001) := fun wx vo h => by
              rw [HRM.out]; split
              · omega
              · simp; omega
            clear HCSS
            go_cut [7, 13] from 52 to 61 (fun vo i wx => i = .int .i64 (K0.idxOf s : Nat) ∧ OwnG wx (m0 + 1) vo R1.2 ∧ MapK wx m0 R1.1 ∧ Below m0 w1 wx)
            case first =>
              cases bk
              · have hk : s ∉ K0 := by simpa using hbk.out
                have HR1 : Hid (R1 = (K0 ++ [s], (G k).2 ++ [[]])) := by show _ = _; rw [HRM.out, ← HK0.out, if_neg hk]
                have HID : Hid (K0.idxOf s = (G k).2.length) := (List.idxOf_eq_length hk).trans HLL.out
                have HFST : Hid ((G k).1 = K0) := HK0.out.symm
                obtain ⟨us, hul, ho, hels, hd⟩ := hown
                have HUL := Lib.hid hul
                have HELS := Lib.hid hels
                have HD := Lib.hid hd
                obtain ⟨A7, c7, rfl, _, _, _, _⟩ := Rd.of_own ho
                have HV : Hid (∀ w5 : World, wr.grownBy w5 (some m0) → OwnG w5 (m0 + 1) (.slice A7 (G k).2.length c7) (G k).2) := fun w5 hg => OwnG.grown ⟨us, HUL.out, ho, HELS.out, HD.out⟩ hg (fun q hq => by injection hq with hq; omega)
                clear ho hul hels hd hbk
                go_wp2_with (first | (at_mapUpdate; refine put_map _ rfl _ _ _ rfl m0 K0 rfl hmap (by omega) s rfl hs14 hk (by show Value.int _ _ = _; rw [HLL.out]) ?_; intro w5 hM5 hg5'; obtain ⟨us5, hul5, ho5, hels5, hd5⟩ := HV.out w5 hg5'; have hs5 : m0 + 1 ≤ w5.heap.size := Nat.le_trans hsz6 hg5'.size; have HUL5 := Lib.hid hul5; have HELS5 := Lib.hid hels5; have HD5 := Lib.hid hd5; clear hul5 hels5 hd5) | (at_builtin; refine app (m0 + 1) rfl _ _ 52 22 (.slice none 0 0) 1 24 rfl Tryz.underlying52 info_ints2 rfl (by decide) (by decide) _ _ _ ho5 _ 1 rfl rfl rfl (by simp [Value.oneCell']) hs5 (by omega) ?_; intro v8 w8 hown8 hg8 hat8))
                go_meet
                refine ⟨by rw [HID.out], by rw [HR1.out]; exact ownG_new HUL5.out ho5 HELS5.out HD5.out hg8 hat8 (by simpa using hown8), ?_, ?_⟩
                · rw [HR1.out]
                  exact hM5.kept hg8 (fun e => by have := (own_lt ho5 e.symm).1; omega)
                · exact (hbel.grown hg5' (by omega) (fun q hq => by injection hq with hq; omega)).grown hg8 (by omega) (fun q hq => by have := (own_lt ho5 hq).1; omega)
              · have hk : s ∈ K0 := by simpa using hbk.out
                have hie := hi0.out hk
                subst hie
                go_wp2_with fail
                go_meet
                have e : R1 = G k := by rw [HRM.out, ← HK0.out, if_pos hk]
                exact ⟨rfl, by rw [e]; exact hown, by rw [e, ← HK0.out]; exact hmap, hbel⟩
            case rest =>
              obtain ⟨rfl, hown2, hmap2, hbel3⟩ := hcut
              have HG1 : Hid (G (k + 1) = (R1.1, R1.2.set (K0.idxOf s) (R1.2[K0.idxOf s]?.getD [] ++ [(k : Int)]))) := HGK.out.trans HST.out
              have hcl : ∀ g, g ∈ R1.2 → g.length ≤ k := fun g hg => by
                rw [HRM.out] at hg
                split at hg
                · exact HBK.out g hg
                · rcases List.mem_append.1 hg with hg | hg
                  · exact HBK.out g hg
                  · simp at hg; subst hg; simp
              generalize K0.idxOf s = x at *
              obtain ⟨us, hul, ho, hels, hd⟩ := hown2
              obtain ⟨gv, capv, rfl, hgv, hgv2⟩ := ho.form (by omega)
              obtain ⟨cl, hcl2⟩ : ∃ cl, R1.2[x]? = some cl := ⟨_, List.getElem?_eq_getElem hidx⟩
              obtain ⟨u, hu⟩ : ∃ u, us[x]? = some u := ⟨us[x]'(by omega), List.getElem?_eq_getElem _⟩
              have hcx : wc.cell? ⟨gv, x, none⟩ = some u := by rw [ho.cellAt x (by omega)]; exact hu
              have hcll := hcl cl (List.mem_of_getElem? hcl2)
              have hou := (hels x cl u hcl2 hu).1
              have HNB : Hid (∀ q, u.ownBlock = some q → gv ≠ q) := fun q hq e => (hels x cl u hcl2 hu).2 q hq (by rw [e]; rfl)
              have HPUSH : Hid (∀ (w8 : World) (u1 : Value), wc.grownBy w8 u.ownBlock → (u1.ownBlock = u.ownBlock ∨ ∃ b, u1.ownBlock = some b ∧ wc.heap.size ≤ b) → w8.ownsRow (m0 + 1) 3 1 u1 (cl.length + 1) ((cl ++ [(k : Int)]).map (.int .i64)) → OwnG (w8.setCell ⟨gv, x, none⟩ u1) (m0 + 1) (.slice (some ⟨gv, 0, none⟩) R1.2.length capv) (R1.2.set x (cl ++ [(k : Int)]))) := fun w8 u1 hg hat h1 => ownG_push hul ho hels hd hcl2 hu hg hat h1
              have HG2 : Hid (G (k + 1) = (R1.1, R1.2.set x (cl ++ [(k : Int)]))) := by show _ = _; rw [HG1.out, hcl2]; rfl
              have hlen : R1.2.length ≤ 20001 := by
                rw [HRM.out]; split
                · omega
                · simp; omega
              have hszw : m0 + 1 ≤ wc.heap.size := by have := hmap2.lt; omega
              have HO := Lib.hid ho
              have hgvl := (own_lt ho rfl).2
              have HIDX : Hid (x < R1.2.length) := hidx
              clear hels hd hul hu hcl2 hcl ho
              generalize hL : R1.2.length = L at *
              have HL2 := Lib.hid hL
              clear hL
              go_wp2_with (at_builtin; refine app (m0 + 1) rfl _ _ 22 3 (.int .i64 0) 1 8 rfl Tryz.underlying22 info3 rfl (by decide) (by decide) _ _ _ hou _ 1 rfl rfl rfl (by simp [Value.oneCell']) hszw (by omega) ?_; intro v8 w8 hown8 hg8 hat8; obtain ⟨A8, c8, rfl, _, _, _, _⟩ := Rd.of_own hown8; have hv8 := own_grown HO.out hg8 (fun q hq e => HNB.out q hq (by injection e)); have hfz8 := hv8.frozenAt x; have hc8 := hg8.cell hcx (fun e => HNB.out gv e.symm rfl))
              go_roundw
              case rel =>
                have hgs := (hv8.stored x (.slice A8 (cl.length + 1) c8)).2
                refine ⟨k + 1, by omega, by go_num, ?_, ?_, ?_⟩
                · rw [HG2.out]
                  exact HPUSH.out w8 _ hg8 hat8 (by simpa using hown8)
                · rw [HG2.out]
                  exact (hmap2.kept hg8 (fun e => by have := (own_lt hou e.symm).1; omega)).kept hgs (fun e => by injection e; omega)
                · exact (hbel3.grown hg8 (by omega) (fun q hq => by have := (own_lt hou hq).1; omega)).grown hgs (Nat.le_trans (by omega) hg8.size) (fun q hq => by injection hq; omega)
              case measure => simp [intOf]; omega
    · obtain rfl : k = fs.length := by omega
      go_wp2_with fail
      go_ret
      exact ⟨_, rfl, hown.mono (by omega), hb1.trans (hbel.mono hm0)⟩
end Go.Proofs.YtedpnjbbcfiheaaGreatDoor

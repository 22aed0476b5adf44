import Derived.Test.YtedpnjbbcfiheaaGreatDoorFLB36
import Derived.Test.YtedpnjbbcfiheaaGreatDoorFLB29
import Derived.StillTailTactics
set_option linter.unusedSimpArgs false
set_option linter.unusedSectionVars false
set_option linter.unusedVariables false
/- Walk of the law FaultsListed: it answers true. -/
set_option linter.unusedVariables false
namespace Go.Proofs.YtedpnjbbcfiheaaGreatDoor
open Go.RowKit Go.Sc
/-- block b holds the kinds 1 .. 6 -/
def LitK (W : World) (b : Nat) : Prop := ∀ j u, [Value.int .i64 1, .int .i64 2, .int .i64 3, .int .i64 4, .int .i64 5, .int .i64 6][j]? = some u → W.cell? ⟨b, j, none⟩ = some u
theorem LitK.new (W : World) : LitK (W.alloc (.cells #[.int .i64 1, .int .i64 2, .int .i64 3, .int .i64 4, .int .i64 5, .int .i64 6] 3)) W.heap.size := fun j u hu => by
  rw [World.cell?_alloc_at _ _ _ _ rfl]
  simpa using hu
theorem LitK.new' (W : World) (b : Nat) (h : b = W.heap.size) : LitK (W.alloc (.cells #[.int .i64 1, .int .i64 2, .int .i64 3, .int .i64 4, .int .i64 5, .int .i64 6] 3)) b := h ▸ LitK.new W
theorem LitK.alloc {W : World} {b : Nat} (h : LitK W b) (o : Obj) : LitK (W.alloc o) b := fun j u hu => cell_below ((Below.refl _ _).alloc (Nat.le_refl _) _) _ _ (h j u hu)
theorem LitK.drew {W : World} {b : Nat} (h : LitK W b) : LitK W.drew b := h
theorem LitK.gb {W W' : World} {b g : Nat} (h : LitK W b) (hg : W.grownBy W' (some g)) (hb : g < b) : LitK W' b := fun j u hu => hg.cell (h j u hu) (fun e => by injection e with e; have e2 : b = g := e; omega)
theorem LitK.rd {W : World} {b : Nat} (h : LitK W b) (k : Nat) (hk : k ≤ 6) : Rd W 1 (.slice (some ⟨b, k, none⟩) (6 - k) (6 - k)) (([1, 2, 3, 4, 5, 6] : List Int).drop k).length ((([1, 2, 3, 4, 5, 6] : List Int).drop k).map (.int .i64)) := by
  refine ⟨_, _, by rw [List.length_drop]; rfl, by rw [List.length_drop]; simp, by simp only [maxLen]; omega, by simp, fun hn => ⟨b, k, rfl, fun j u hu => ?_⟩⟩
  refine h (k + j) u ?_
  rw [List.map_drop, List.getElem?_drop] at hu
  exact hu
theorem rd_drew {W : World} {size n : Nat} {v : Value} {xs : List Value} (h : Rd W size v n xs) : Rd W.drew size v n xs := h.keep (fun p u h => h)
theorem rd_more {W : World} {size n : Nat} {v : Value} {xs : List Value} (h : Rd W size v n xs) (o : Obj) : Rd (W.alloc o) size v n xs := h.below ((Below.refl _ _).alloc (Nat.le_refl _) _)
theorem gb_two (w : World) (g : Nat) (u v : Value) : w.grownBy ((w.setCell ⟨g, 0, none⟩ u).setCell ⟨g, 1, none⟩ v) (some g) :=
  gb_setCell (g := g) (p := ⟨g, 1, none⟩) (gb_setCell (g := g) (p := ⟨g, 0, none⟩) (gb_refl w (some g)) (.inl rfl) u) (.inl rfl) v
/-- the nets and the kinds that the law takes -/
def NetsP (w w' : World) (g : Nat) (nv kv : Value) : Prop := ∃ (n : Int) (ks : List Int), nv = .int .i64 n ∧ 0 ≤ n ∧ n ≤ 101 ∧ ks.length ≤ 7 ∧ RowI w' ks kv ∧ w.grownBy w' (some g)
theorem flist_bd (xs : List Int) (a nets : Int) (h0 : 0 ≤ nets) (h1 : nets ≤ 100) : a ≤ (flist xs a nets).2 ∧ (flist xs a nets).2 ≤ a + 700 := by
  have n0 := nx_lo xs a 7
  have n1 := nx_lt xs a 7 (by omega)
  obtain ⟨i0, i1⟩ := flL_bd xs nets (a + 1) h0 h1 (nx xs a 7).toNat
  unfold flist
  omega
set_option maxRecDepth 100000 in
set_option maxHeartbeats 2000000 in
theorem FaultsListed_any (A : Option Addr) (c : Nat) (xs : List Int) (w : World) (ha : ArgI w A c xs) :
    Calls Tryz.prog 4 #[.slice A xs.length c] w fun e w' => e = .returned (.bool true) ∧ Below w.heap.size w w' := by
  have hst := strm_start ha
  have hg0 : w.grownBy (w.alloc (.cells #[.slice A xs.length c, .int .i64 0] TS)) (some w.heap.size) := World.grownBy_alloc w _ _
  go_enter Tryz.func4, Tryz.ntmps4
  go_wp2_with fail
  refine (ATest_any w.heap.size xs 0 _ hst (by omega)).mono ?_
  rintro e w1 ⟨v1, rfl, hown1, hs1, hg1⟩
  have hgw1 := World.grownBy.trans' hg0 hg1
  obtain ⟨en0, en1⟩ := atest_end xs 0 (by omega)
  have hsz := atest_size xs 0
  have hln := atest_len xs 0
  generalize (atest xs 0).1 = ss at *
  generalize (atest xs 0).2 = b at *
  rw [World.size_alloc] at hown1
  obtain ⟨A1, c1, rfl, _, _, _, _⟩ := Rd.of_own hown1
  have HSZ : Hid (szOk ss) := fun s hs => Nat.le_trans (hsz s hs) (by omega)
  clear hsz hst hg0 hg1
  go_wp2_with fail
  refine (FaultList_any w.heap.size xs b ss.length _ hs1 (by omega) (by omega) (by omega)).mono ?_
  rintro e w2 ⟨v2, rfl, hof2, hs2, hg2⟩
  have hfl : (flist xs b ss.length).1.length ≤ 6 := by
    unfold flist
    rw [flL_len]
    have := nx_lt xs b 7 (by omega)
    have := nx_lo xs b 7
    omega
  obtain ⟨fe0, fe1⟩ := flist_bd xs b ss.length (by omega) (by omega)
  have hrf := hof2.rdf
  have hown2 := own_strm hown1 hg2 (by omega)
  have hgw2 := World.grownBy.trans' hgw1 hg2
  generalize (flist xs b ss.length).1 = fs at *
  generalize (flist xs b ss.length).2 = d at *
  have hgl := hs2.lt
  have HOF := Lib.hid hof2
  obtain ⟨A2, c2, rfl, _, _, _⟩ := hrf
  have hl1 : Rd (w2.alloc (.cells #[.int .i64 1, .int .i64 2, .int .i64 3, .int .i64 5, .int .i64 0, .int .i64 101] 3)) 1 (.slice (some ⟨w2.heap.size, 0, none⟩) 6 6) 6 (([1, 2, 3, 5, 0, 101] : List Int).map (.int .i64)) := rd_alloc w2 _ _ 6 rfl (by decide)
  clear hof2
  go_wp2_with fail
  refine (Pick_any w.heap.size xs d _ 6 _ _ (hs2.alloc _) (by omega) (by omega) (by omega) hl1 (by rintro A m c e; injection e with e _ _; injection e with e; subst e; exact Nat.ne_of_gt hgl)).mono ?_
  rintro e w3 ⟨rfl, hs3, hg3⟩
  have hgw3 := World.grownBy.trans' (gb_alloc hgw2 _) hg3
  have hg23 := World.grownBy.trans' (World.grownBy_alloc w2 _ (some w.heap.size)) hg3
  have hn0 : 0 ≤ ([1, 2, 3, 5, 0, 101] : List Int).getD (nx xs d 6).toNat 0 ∧ ([1, 2, 3, 5, 0, 101] : List Int).getD (nx xs d 6).toNat 0 ≤ 101 := by
    have h0 := nx_lo xs d 6
    have h1 := nx_lt xs d 6 (by omega)
    have : ∀ k, k < 6 → 0 ≤ ([1, 2, 3, 5, 0, 101] : List Int).getD k 0 ∧ ([1, 2, 3, 5, 0, 101] : List Int).getD k 0 ≤ 101 := by decide
    exact this _ (by omega)
  generalize ([1, 2, 3, 5, 0, 101] : List Int).getD (nx xs d 6).toNat 0 = nets at *
  go_wp2_with fail
  refine (Kinds_any w.heap.size xs (d + 1) w3 hs3 (by omega)).mono ?_
  rintro e w4 ⟨v4, rfl, ks, d4, hk7, hownk, hs4, hd0, hd1, hg4⟩
  have hgw4 := World.grownBy.trans' hgw3 hg4
  have hg24 := World.grownBy.trans' hg23 hg4
  obtain ⟨Ak, ck, rfl, _, _, _, _⟩ := Rd.of_own hownk
  go_wp2_with fail
  refine (Flip_any w.heap.size xs d4 _ _ hs4 (by omega) (by omega) (by omega)).mono ?_
  rintro e w5 ⟨rfl, hs5, hg5⟩
  have hgl3 : w.heap.size < w3.heap.size := hs3.lt
  have hownk5 := own_strm hownk hg5 hgl3
  have hg25 := World.grownBy.trans' hg24 hg5
  generalize (nx xs d4 40 == 0) = fl at *
  go_upto_if 45 with fail
  go_cut [6, 7] from 45 to 52 (fun nv kv wx => NetsP w5 wx w.heap.size nv kv)
  case first =>
    cases fl
    · go_wp2_with fail
      go_meet
      exact ⟨nets, ks, rfl, hn0.1, hn0.2, hk7, Rd.of_own hownk5, gb_refl _ _⟩
    · have HPK : Hid (0 ≤ ([100, 99] : List Int).getD (nx xs (d4 + 1) 2).toNat 0 ∧ ([100, 99] : List Int).getD (nx xs (d4 + 1) 2).toNat 0 ≤ 101) := by
        have h0 := nx_lo xs (d4 + 1) 2
        have h1 := nx_lt xs (d4 + 1) 2 (by omega)
        have : ∀ k, k < 2 → 0 ≤ ([100, 99] : List Int).getD k 0 ∧ ([100, 99] : List Int).getD k 0 ≤ 101 := by decide
        exact this _ (by omega)
      have hr3 : (0 : Int) + nx xs (d4 + 1 + 1) (2 - 0 + 1) = 0 ∨ (0 : Int) + nx xs (d4 + 1 + 1) (2 - 0 + 1) = 1 ∨ (0 : Int) + nx xs (d4 + 1 + 1) (2 - 0 + 1) = 2 := by
        have h0 := nx_lo xs (d4 + 1 + 1) (2 - 0 + 1)
        have h1 := nx_lt xs (d4 + 1 + 1) (2 - 0 + 1) (by omega)
        omega
      have HRD : Hid (∀ (W : World) (b : Nat), b = W.heap.size → Rd (W.alloc (.cells #[.int .i64 100, .int .i64 99] 3)) 1 (.slice (some ⟨b, 0, none⟩) 2 2) 2 (([100, 99] : List Int).map (.int .i64))) := fun W b hb => by rw [hb]; exact rd_alloc W _ _ 2 rfl (by decide)
      have hg55 : w5.grownBy w5 (some w.heap.size) := gb_refl _ _
      have hgl5 : w.heap.size < w5.heap.size := hs5.lt
      generalize hpk : ([100, 99] : List Int).getD (nx xs (d4 + 1) 2).toNat 0 = pk at *
      have HPE := Lib.hid hpk
      clear hpk
      rcases hr3 with hre | hre | hre
      all_goals
       have HRE := Lib.hid hre
       clear hre
       go_upto_region 5 with fail
       go_region_law (first
        | (go_simp; go_at_call 20; refine (Pick_any w.heap.size xs (d4 + 1) _ 2 [100, 99] _ (by with_reducible repeat (first | exact hs5 | apply Strm.alloc | apply Strm.drewN | apply strm_drew)) (by omega) (by omega) (by omega) (by with_reducible repeat (first | exact HRD.out _ _ (by simp) | apply rd_more | apply rd_drew)) (by rintro A m c e; injection e with e _ _; injection e with e; subst e; exact Nat.ne_of_gt (by first | exact hgl5 | (simp; omega)))).mono ?_; rintro e w6 ⟨rfl, hs6, hg6⟩; rw [show ((2 : Nat) : Int) = 2 from rfl, HPE.out]; have hgw6 : w5.grownBy w6 (some w.heap.size) := World.grownBy.trans' (by with_reducible repeat (first | exact hg55 | apply gb_alloc | apply gb_drew)) hg6; have HT6 : Hid (∀ b, LitK _ b → w.heap.size < b → LitK w6 b) := fun b h1 h2 => h1.gb hg6 h2; have hgl6 := hs6.lt)
        | (go_simp; go_at_call 23; refine (Range_any w.heap.size xs (d4 + 1 + 1) 0 2 _ (by with_reducible repeat (first | exact hs6 | apply Strm.alloc | apply Strm.drewN | apply strm_drew)) (by omega) (by omega) (by omega) (by omega) (by omega)).mono ?_; rintro e w7 ⟨rfl, hs7, hg7⟩; rw [HRE.out]; have hgw7 : w5.grownBy w7 (some w.heap.size) := World.grownBy.trans' (by with_reducible repeat (first | exact hgw6 | apply gb_alloc | apply gb_drew)) hg7; have HT7 : Hid (∀ b, LitK _ b → w.heap.size < b → LitK w7 b) := fun b h1 h2 => h1.gb hg7 h2; have hgl7 := hs7.lt))
      all_goals (go_wp2_with fail)
      all_goals go_meet
      all_goals (first
        | exact ⟨pk, ([1, 2, 3, 4, 5, 6] : List Int).drop 0, rfl, HPK.out.1, HPK.out.2, by decide, LitK.rd (by with_reducible repeat (first | exact LitK.new' _ _ (by simp) | apply LitK.alloc | apply LitK.drew | refine HT7.out _ ?_ (by first | omega | (simp; omega)) | refine HT6.out _ ?_ (by first | omega | (simp; omega)))) 0 (by decide), by with_reducible repeat (first | exact hgw7 | apply gb_alloc | apply gb_drew)⟩
        | exact ⟨pk, ([1, 2, 3, 4, 5, 6] : List Int).drop 1, rfl, HPK.out.1, HPK.out.2, by decide, LitK.rd (by with_reducible repeat (first | exact LitK.new' _ _ (by simp) | apply LitK.alloc | apply LitK.drew | refine HT7.out _ ?_ (by first | omega | (simp; omega)) | refine HT6.out _ ?_ (by first | omega | (simp; omega)))) 1 (by decide), by with_reducible repeat (first | exact hgw7 | apply gb_alloc | apply gb_drew)⟩
        | exact ⟨pk, ([1, 2, 3, 4, 5, 6] : List Int).drop 2, rfl, HPK.out.1, HPK.out.2, by decide, LitK.rd (by with_reducible repeat (first | exact LitK.new' _ _ (by simp) | apply LitK.alloc | apply LitK.drew | refine HT7.out _ ?_ (by first | omega | (simp; omega)) | refine HT6.out _ ?_ (by first | omega | (simp; omega)))) 2 (by decide), by with_reducible repeat (first | exact hgw7 | apply gb_alloc | apply gb_drew)⟩
        | trace_state)
  case rest =>
    obtain ⟨nt, kl, hnv, hnt0, hnt1, hkl, hrk, hgw⟩ := hcut
    subst hnv
    have hg2c := World.grownBy.trans' hg25 hgw
    have HR : Hid (Rd wc 1 (.slice A1 ss.length c1) ss.length (ss.map .string)) := Rd.of_own (own_strm hown2 hg2c (by omega))
    have HF : Hid (RdF wc (.slice A2 fs.length c2) fs) := (HOF.out.grown hg2c (fun k hk => by injection hk with hk; left; have := hs1.lt; omega)).rdf
    have HB : Hid (Below w.heap.size w wc) := below_gb (World.grownBy.trans' hgw2 hg2c)
    have HK := Lib.hid hrk
    clear hg2c hrk hgw hg25 hown2 hgw2 HOF hownk hownk5 hs1 hs2 hs3 hs4 hs5 hg2 hg3 hg4 hg5 hgw1 hgw3 hgw4 hg23 hg24 hown1 ha hn0 hk7
    go_wp2_with fail
    refine (All_any nt _ _ kl wc HK.out).mono ?_
    rintro e w11 ⟨v11, rfl, hall, hb11⟩
    have HALL := Lib.hid hall
    clear hall
    go_wp2_with fail
    refine (Undetected_any _ _ ss _ fs w11 (HR.out.below hb11) HSZ.out (HF.out.below hb11)).mono ?_
    rintro e w12 ⟨v12, rfl, hund, hb12⟩
    have hb2 := hb11.trans (hb12.mono hb11.size)
    have HUND := Lib.hid hund
    clear hund
    have HC := Lib.hid (Coverage_any _ _ ss _ fs w12 (HR.out.below hb2) HSZ.out (HF.out.below hb2))
    obtain ⟨a1, ha1⟩ : ∃ a, a = (covP ss fs).1 := ⟨_, rfl⟩
    obtain ⟨a2, ha2⟩ : ∃ a, a = (covP ss fs).2 := ⟨_, rfl⟩
    have HA1 := Lib.hid ha1
    have HA2 := Lib.hid ha2
    rw [← ha1, ← ha2] at HC
    clear ha1 ha2
    go_wp2_with fail
    refine HC.out.mono ?_
    rintro e w13 ⟨rfl, hb13⟩
    have hb3 := hb2.trans (hb13.mono hb2.size)
    go_wp2_with fail
    obtain ⟨W13, hW13⟩ : ∃ W, W = w13.alloc (.cells #[.int .i64 a1, .int .i64 a2] 49) := ⟨_, rfl⟩
    have hx1 : Box2 49 W13 w13.heap.size (.int .i64 a1) (.int .i64 a2) := by rw [hW13]; exact Box2.new 49 w13 _ _
    have hbw : Below w13.heap.size w13 W13 := by rw [hW13]; exact (Below.refl _ _).alloc (Nat.le_refl _) _
    rw [← hW13]
    clear hW13
    have hb4 := hb3.trans (hbw.mono hb3.size)
    have hc1 : Below w12.heap.size w12 W13 := hb13.trans (hbw.mono hb13.size)
    have HBX1 := Lib.hid hx1
    generalize w13.heap.size = q1 at *
    clear hx1 hbw hb13 HC
    refine (Groups_any _ _ ss _ fs W13 (HR.out.below hb4) HSZ.out (HF.out.below hb4)).mono ?_
    rintro e w14 ⟨v14, rfl, hgrp, hb14⟩
    have hb5 := hb4.trans (hb14.mono hb4.size)
    have HGRP := Lib.hid hgrp
    clear hgrp
    have HC := Lib.hid (Resolution_any _ _ ss _ fs w14 (HR.out.below hb5) HSZ.out (HF.out.below hb5))
    obtain ⟨r1, hr1⟩ : ∃ a, a = (resP ss fs).1 := ⟨_, rfl⟩
    obtain ⟨r2, hr2⟩ : ∃ a, a = (resP ss fs).2 := ⟨_, rfl⟩
    have HR1 := Lib.hid hr1
    have HR2 := Lib.hid hr2
    rw [← hr1, ← hr2] at HC
    clear hr1 hr2
    go_wp2_with fail
    refine HC.out.mono ?_
    rintro e w15 ⟨rfl, hb15⟩
    have hb6 := hb5.trans (hb15.mono hb5.size)
    go_wp2_with fail
    obtain ⟨W15, hW15⟩ : ∃ W, W = w15.alloc (.cells #[.int .i64 r1, .int .i64 r2] 49) := ⟨_, rfl⟩
    have hx2 : Box2 49 W15 w15.heap.size (.int .i64 r1) (.int .i64 r2) := by rw [hW15]; exact Box2.new 49 w15 _ _
    have hbw : Below w15.heap.size w15 W15 := by rw [hW15]; exact (Below.refl _ _).alloc (Nat.le_refl _) _
    rw [← hW15]
    clear hW15
    have hb7 := hb6.trans (hbw.mono hb6.size)
    have hc2 : Below w14.heap.size w14 W15 := hb15.trans (hbw.mono hb15.size)
    have HBX2 := Lib.hid hx2
    generalize w15.heap.size = q2 at *
    clear hx2 hbw hb15 HC
    refine (Curve_any _ _ ss _ fs W15 (HR.out.below hb7) HSZ.out (HF.out.below hb7)).mono ?_
    rintro e w16 ⟨v16, rfl, hcur, hb16⟩
    have hb8 := hb7.trans (hb16.mono hb7.size)
    have HCUR := Lib.hid hcur
    clear hcur
    go_wp2_with fail
    refine (AllFault_any nt _ _ kl w16 (HK.out.below hb8)).mono ?_
    rintro e w16' ⟨rfl, rfl⟩
    go_wp2_with fail
    refine (listFault_any _ _ ss _ fs w16 (HR.out.below hb8) HSZ.out (HF.out.below hb8)).mono ?_
    rintro e w17 ⟨rfl, hb17⟩
    have hb9 := hb8.trans (hb17.mono hb8.size)
    have HA17 : Hid (AllP w17 nt kl v11) := by
      show AllP _ _ _ _
      have h : Below w11.heap.size w11 w17 := hb12.trans ((hc1.trans ((hb14.trans ((hc2.trans ((hb16.trans (hb17.mono hb16.size)).mono hc2.size)).mono hb14.size)).mono hc1.size)).mono hb12.size)
      exact RdF.below HALL.out h
    have HU17 : Hid (RowI w17 (undR ss fs) v12) := by
      show RowI _ _ _
      exact HUND.out.below (hc1.trans ((hb14.trans ((hc2.trans ((hb16.trans (hb17.mono hb16.size)).mono hc2.size)).mono hb14.size)).mono hc1.size))
    have HG17 : Hid (RdL w17 v14 (grpR ss fs)) := by
      show RdL _ _ _
      exact HGRP.out.below (hc2.trans ((hb16.trans (hb17.mono hb16.size)).mono hc2.size))
    have HC17 : Hid (RowI w17 (curR ss fs) v16) := by
      show RowI _ _ _
      exact HCUR.out.below hb17
    have HX17 : Hid (Box2 49 w17 q1 (.int .i64 a1) (.int .i64 a2)) := by
      show Box2 _ _ _ _ _
      exact HBX1.out.below (hb14.trans ((hc2.trans ((hb16.trans (hb17.mono hb16.size)).mono hc2.size)).mono hb14.size))
    have HY17 : Hid (Box2 49 w17 q2 (.int .i64 r1) (.int .i64 r2)) := by
      show Box2 _ _ _ _ _
      exact HBX2.out.below (hb16.trans (hb17.mono hb16.size))
    have HB9 := Lib.hid hb9
    clear HALL HUND HGRP HCUR HBX1 HBX2 hb11 hb12 hb2 hb3 hb4 hb5 hb6 hb7 hb8 hb14 hb16 hb17 hc1 hc2 hb9
    go_upto_if 98 with fail
    go_cut [24] from 98 to 101 (fun v24 wx => AllP wx nt kl v24 ∧ Below w17.heap.size w17 wx)
    case first =>
      by_cases hx : allErr nt kl = 0
      · have e : (allErr nt kl == 0) = true := beq_iff_eq.2 hx
        have HX := Lib.hid hx
        have HAO := Lib.hid (AllOf_ok nt _ _ kl w17 (HK.out.below HB9.out) HX.out)
        clear hx
        go_wp2_with fail
        refine HAO.out.mono ?_
        rintro e w18 ⟨v18, rfl, hal, hb18⟩
        have HAL := Lib.hid hal
        clear hal
        go_wp2_with fail
        go_meet
        exact ⟨HAL.out, hb18⟩
      · have e : (allErr nt kl == 0) = false := beq_eq_false_iff_ne.2 hx
        have HAN : Hid (AllP w17 nt kl (.slice none 0 0)) := by
          show AllP _ _ _ _
          unfold AllP allR
          rw [if_neg hx]
          exact RdF.nil _
        clear hx
        go_wp2_with fail
        go_meet
        exact ⟨HAN.out, Below.refl _ _⟩
    case rest =>
      obtain ⟨hal, hb18⟩ := hcut
      have hbc := HB9.out.trans (hb18.mono HB9.out.size)
      have HRc : Hid (Rd wc 1 (.slice A1 ss.length c1) ss.length (ss.map .string)) := HR.out.below hbc
      have HFc : Hid (RdF wc (.slice A2 fs.length c2) fs) := HF.out.below hbc
      have HBc : Hid (Below w.heap.size w wc) := HB.out.trans (hbc.mono HB.out.size)
      have HAL := Lib.hid hal
      have HAc : Hid (AllP wc nt kl v11) := RdF.below HA17.out hb18
      have HUc : Hid (RowI wc (undR ss fs) v12) := HU17.out.below hb18
      have HGc : Hid (RdL wc v14 (grpR ss fs)) := HG17.out.below hb18
      have HCc : Hid (RowI wc (curR ss fs) v16) := HC17.out.below hb18
      have HXc : Hid (Box2 49 wc q1 (.int .i64 a1) (.int .i64 a2)) := HX17.out.below hb18
      have HYc : Hid (Box2 49 wc q2 (.int .i64 r1) (.int .i64 r2)) := HY17.out.below hb18
      clear hal hb18 hbc HB9 HA17 HU17 HG17 HC17 HX17 HY17 HR HF HB HK
      go_upto_if 105 with fail
      obtain ⟨W19, hW19⟩ : ∃ W, W = ((wc.alloc (.cells #[.int .i64 0, .int .i64 0] 49)).alloc (.cells #[.int .i64 0, .int .i64 0] 49)) := ⟨_, rfl⟩
      have hz1 : Box2 49 W19 wc.heap.size (.int .i64 0) (.int .i64 0) := by rw [hW19]; exact (Box2.new 49 wc _ _).alloc _
      have hz2 : Box2 49 W19 (wc.heap.size + 1) (.int .i64 0) (.int .i64 0) := by
        rw [hW19]
        have := Box2.new 49 (wc.alloc (.cells #[.int .i64 0, .int .i64 0] 49)) (.int .i64 0) (.int .i64 0)
        rwa [World.size_alloc] at this
      have hbw : Below wc.heap.size wc W19 := by rw [hW19]; exact ((Below.refl _ _).alloc (Nat.le_refl _) _).alloc (by simp) _
      have hsz19 : W19.heap.size = wc.heap.size + 2 := by rw [hW19]; simp
      rw [← hW19]
      clear hW19
      have HZ1 := Lib.hid hz1
      have HZ2 := Lib.hid hz2
      have HBW := Lib.hid hbw
      obtain ⟨p1, hp1⟩ : ∃ p, p = wc.heap.size := ⟨_, rfl⟩
      have hsl : wc.heap.size ≤ p1 := by omega
      have hsl2 : p1 + 2 ≤ W19.heap.size := by omega
      rw [← hp1] at HZ1 HZ2 ⊢
      clear hz1 hz2 hbw hsz19 hp1
      go_cut [22, 23, 25, 26, 27] from 105 to 126 (fun x22 x23 v25 v26 v27 wx => x22 = .int .i64 (covE ss fs) ∧ x23 = .int .i64 (covE ss fs) ∧ RowI wx (undR ss fs) v25 ∧ RowI wx (curR ss fs) v26 ∧ RdL wx v27 (grpR ss fs) ∧ Box2 49 wx p1 (.int .i64 a1) (.int .i64 a2) ∧ Box2 49 wx (p1 + 1) (.int .i64 r1) (.int .i64 r2) ∧ Below wc.heap.size wc wx)
      case first =>
        by_cases h0 : lfault ss fs = 0
        · have e : (lfault ss fs == 0) = true := beq_iff_eq.2 h0
          have H0 := Lib.hid h0
          clear h0
          go_wp2_with fail
          refine (UndetectedOf_law _ _ ss _ fs W19 (HRc.out.below HBW.out) HSZ.out (HFc.out.below HBW.out) H0.out).mono ?_
          rintro e20 w20 ⟨v20, rfl, ho20, hb20⟩
          have hB20 := HBW.out.trans (hb20.mono HBW.out.size)
          have HO20 := Lib.hid ho20
          clear ho20
          go_wp2_with fail
          refine (GroupsOf_law _ _ ss _ fs w20 (HRc.out.below hB20) HSZ.out (HFc.out.below hB20) H0.out).mono ?_
          rintro e21 w21 ⟨v21, rfl, ho21, hb21⟩
          have hB21 := hB20.trans (hb21.mono hB20.size)
          have HO21 := Lib.hid ho21
          clear ho21
          go_wp2_with fail
          refine (CurveOf_law _ _ ss _ fs w21 (HRc.out.below hB21) HSZ.out (HFc.out.below hB21) H0.out).mono ?_
          rintro e22 w22 ⟨v22, rfl, ho22, hb22⟩
          have hB22 := hB21.trans (hb22.mono hB21.size)
          have HO22 := Lib.hid ho22
          clear ho22
          have HC := Lib.hid (CoverageOf_law _ _ ss _ fs w22 (HRc.out.below hB22) HSZ.out (HFc.out.below hB22) H0.out)
          rw [← HA1.out, ← HA2.out] at HC
          go_wp2_with fail
          refine HC.out.mono ?_
          rintro e23 w23 ⟨rfl, hb23⟩
          have hB23 := hB22.trans (hb23.mono hB22.size)
          have h20_23 : Below w20.heap.size w20 w23 := hb21.trans ((hb22.trans (hb23.mono hb22.size)).mono hb21.size)
          have h19_23 : Below W19.heap.size W19 w23 := hb20.trans (h20_23.mono hb20.size)
          have x1 := HZ1.out.below h19_23
          have x2 := HZ2.out.below h19_23
          have c0 := x1.cell0
          have c1' := x1.cell1
          have cf := x1.frozen
          have y1 := (x1.set0 (.int .i64 a1)).set1 (.int .i64 a2)
          have y2 := (x2.other ⟨p1, 0, none⟩ (by show p1 ≠ p1 + 1; omega) (.int .i64 a1)).other ⟨p1, 1, none⟩ (by show p1 ≠ p1 + 1; omega) (.int .i64 a2)
          have hg24 : w23.grownBy ((w23.setCell ⟨p1, 0, none⟩ (.int .i64 a1)).setCell ⟨p1, 1, none⟩ (.int .i64 a2)) (some p1) := gb_two _ _ _ _
          have hB24 : Below wc.heap.size wc ((w23.setCell ⟨p1, 0, none⟩ (.int .i64 a1)).setCell ⟨p1, 1, none⟩ (.int .i64 a2)) := (hB23.setCell hsl _).setCell hsl _
          have HZ3 := Lib.hid y1
          have HZ4 := Lib.hid y2
          have HB24 := Lib.hid hB24
          have HG24 := Lib.hid hg24
          have HO20' : Hid (RowO ((w23.setCell ⟨p1, 0, none⟩ (.int .i64 a1)).setCell ⟨p1, 1, none⟩ (.int .i64 a2)) W19.heap.size (undR ss fs) v20) := (HO20.out.below h20_23).gb hg24 (by omega)
          have HO21' : Hid (OwnG ((w23.setCell ⟨p1, 0, none⟩ (.int .i64 a1)).setCell ⟨p1, 1, none⟩ (.int .i64 a2)) w20.heap.size v21 (grpR ss fs)) := (HO21.out.below (hb22.trans (hb23.mono hb22.size))).gb hg24 (by have := hb20.size; omega)
          have HO22' : Hid (RowO ((w23.setCell ⟨p1, 0, none⟩ (.int .i64 a1)).setCell ⟨p1, 1, none⟩ (.int .i64 a2)) w21.heap.size (curR ss fs) v22) := (HO22.out.below hb23).gb hg24 (by have := hb20.size; have := hb21.size; omega)
          have hs20 := hb20.size
          have hs21 := hb21.size
          have HC := Lib.hid (ResolutionOf_law _ _ ss _ fs _ (HRc.out.below hB24) HSZ.out (HFc.out.below hB24) H0.out)
          rw [← HR1.out, ← HR2.out] at HC
          clear hg24 y1 y2 hB24 HO20 HO21 HO22 x1 x2 hb20 hb21 hb22 hb23 hB20 hB21 hB22 hB23 h20_23 h19_23
          go_wp2_with fail
          generalize (w23.setCell ⟨p1, 0, none⟩ (.int .i64 a1)).setCell ⟨p1, 1, none⟩ (.int .i64 a2) = w24 at *
          clear c0 c1' cf
          refine HC.out.mono ?_
          rintro e25 w25 ⟨rfl, hb25⟩
          have hB25 := HB24.out.trans (hb25.mono HB24.out.size)
          have x1 := HZ3.out.below hb25
          have x2 := HZ4.out.below hb25
          have c0 := x2.cell0
          have c1' := x2.cell1
          have cf := x2.frozen
          have y2 := (x2.set0 (.int .i64 r1)).set1 (.int .i64 r2)
          have y1 := (x1.other ⟨p1 + 1, 0, none⟩ (by show p1 + 1 ≠ p1; omega) (.int .i64 r1)).other ⟨p1 + 1, 1, none⟩ (by show p1 + 1 ≠ p1; omega) (.int .i64 r2)
          have hg26 : w25.grownBy ((w25.setCell ⟨p1 + 1, 0, none⟩ (.int .i64 r1)).setCell ⟨p1 + 1, 1, none⟩ (.int .i64 r2)) (some (p1 + 1)) := gb_two _ _ _ _
          have HB26 : Hid (Below wc.heap.size wc ((w25.setCell ⟨p1 + 1, 0, none⟩ (.int .i64 r1)).setCell ⟨p1 + 1, 1, none⟩ (.int .i64 r2))) := (hB25.setCell (by show wc.heap.size ≤ p1 + 1; omega) _).setCell (by show wc.heap.size ≤ p1 + 1; omega) _
          have HZ5 := Lib.hid y1
          have HZ6 := Lib.hid y2
          have F20 : Hid (RowI ((w25.setCell ⟨p1 + 1, 0, none⟩ (.int .i64 r1)).setCell ⟨p1 + 1, 1, none⟩ (.int .i64 r2)) (undR ss fs) v20) := ((HO20'.out.below hb25).gb hg26 (by omega)).row
          have F21 : Hid (RdL ((w25.setCell ⟨p1 + 1, 0, none⟩ (.int .i64 r1)).setCell ⟨p1 + 1, 1, none⟩ (.int .i64 r2)) v21 (grpR ss fs)) := ((HO21'.out.below hb25).gb hg26 (by omega)).rdl
          have F22 : Hid (RowI ((w25.setCell ⟨p1 + 1, 0, none⟩ (.int .i64 r1)).setCell ⟨p1 + 1, 1, none⟩ (.int .i64 r2)) (curR ss fs) v22) := ((HO22'.out.below hb25).gb hg26 (by omega)).row
          clear y1 y2 hg26 x1 x2 HC hB25 hb25
          go_wp2_with fail
          go_meet
          exact ⟨rfl, rfl, F20.out, F22.out, F21.out, HZ5.out, HZ6.out, HB26.out⟩
        · have e : (lfault ss fs == 0) = false := beq_eq_false_iff_ne.2 h0
          have E1 : Hid (covE ss fs = lfault ss fs) := by show _ = _; unfold covE; rw [if_neg h0]
          have E2 : Hid (undR ss fs = []) := by show _ = _; unfold undR; rw [if_neg h0]
          have E3 : Hid (curR ss fs = []) := by show _ = _; unfold curR; rw [if_neg h0]
          have E4 : Hid (grpR ss fs = []) := by show _ = _; unfold grpR; rw [if_neg h0]
          have E5 : Hid (a1 = 0 ∧ a2 = 0) := by show _ ∧ _; rw [HA1.out, HA2.out]; unfold covP; rw [if_neg (fun h => h0 h.1)]; exact ⟨rfl, rfl⟩
          have E6 : Hid (r1 = 0 ∧ r2 = 0) := by show _ ∧ _; rw [HR1.out, HR2.out]; unfold resP; rw [if_neg (fun h => h0 h.1)]; exact ⟨rfl, rfl⟩
          clear h0
          go_wp2_with fail
          go_meet
          refine ⟨by rw [E1.out], by rw [E1.out], ?_, ?_, ?_, ?_, ?_, HBW.out⟩
          · rw [E2.out]; exact Rd.nil _ _
          · rw [E3.out]; exact Rd.nil _ _
          · rw [E4.out]; exact RdL.nil _
          · rw [E5.out.1, E5.out.2]; exact HZ1.out
          · rw [E6.out.1, E6.out.2]; exact HZ2.out
      case rest =>
        obtain ⟨rfl, rfl, hu25, hc26, hg27, hx1, hx2, hbf⟩ := hcut
        have hAf : AllP wc nt kl v11 := RdF.below HAc.out hbf
        have hAl : AllP wc nt kl u24 := RdF.below HAL.out hbf
        have HUf : Hid (RowI wc (undR ss fs) v12) := HUc.out.below hbf
        have HGf : Hid (RdL wc v14 (grpR ss fs)) := HGc.out.below hbf
        have HCf : Hid (RowI wc (curR ss fs) v16) := HCc.out.below hbf
        have HXf : Hid (Box2 49 wc q1 (.int .i64 a1) (.int .i64 a2)) := HXc.out.below hbf
        have HYf : Hid (Box2 49 wc q2 (.int .i64 r1) (.int .i64 r2)) := HYc.out.below hbf
        have HBf : Hid (Below w.heap.size w wc) := HBc.out.trans (hbf.mono HBc.out.size)
        have HE1 := Lib.hid (EqF_same _ _ (allR nt kl) wc hAf hAl (allR_len nt kl) (allR_nets nt kl))
        have HU25 := Lib.hid hu25
        have HC26 := Lib.hid hc26
        have HG27 := Lib.hid hg27
        have HX1 := Lib.hid hx1
        have HX2 := Lib.hid hx2
        clear hAf hAl hu25 hc26 hg27 hx1 hx2 hbf HUc HGc HCc HXc HYc HAc HAL HBc HZ1 HZ2 HBW HRc HFc
        have hl1 := undR_len ss fs
        have hl2 := curR_len ss fs
        obtain ⟨hl3, hl4⟩ := grpR_len ss fs
        have HL4 := Lib.hid hl4
        clear hl4
        go_wp2_with fail
        refine HE1.out.mono ?_
        rintro e30 w30 ⟨rfl, hb30⟩
        have HE2 := Lib.hid (EqI_same _ _ _ _ _ _ w30 (HUf.out.below hb30) (HU25.out.below hb30) (by omega) rfl)
        go_wp2_with fail
        refine HE2.out.mono ?_
        rintro e31 w31 ⟨rfl, hb31⟩
        have hb2 := hb30.trans (hb31.mono hb30.size)
        have b0 := (HXf.out.below hb2).cell0
        have b1 := (HXf.out.below hb2).cell1
        have b2 := (HX1.out.below hb2).cell0
        have b3 := (HX1.out.below hb2).cell1
        have HE3 := Lib.hid (EqL_same _ _ (grpR ss fs) w31 (HGf.out.below hb2) (HG27.out.below hb2) (by omega) (fun f hf => by have := HL4.out f hf; omega))
        go_wp2_with fail
        refine HE3.out.mono ?_
        rintro e32 w32 ⟨rfl, hb32⟩
        have hb3 := hb2.trans (hb32.mono hb2.size)
        have d0 := (HYf.out.below hb3).cell0
        have d1 := (HYf.out.below hb3).cell1
        have d2 := (HX2.out.below hb3).cell0
        have d3 := (HX2.out.below hb3).cell1
        have HE4 := Lib.hid (EqI_same _ _ _ _ _ _ w32 (HCf.out.below hb3) (HC26.out.below hb3) (by omega) rfl)
        go_wp2_with fail
        refine HE4.out.mono ?_
        rintro e33 w33 ⟨rfl, hb33⟩
        have hb4 := hb3.trans (hb33.mono hb3.size)
        go_wp2_with fail
        refine (faulted_any w33).mono ?_
        rintro e34 w34 ⟨rfl, hb34⟩
        have hb5 := HBf.out.trans ((hb4.trans (hb34.mono hb4.size)).mono HBf.out.size)
        go_wp2_with fail
        go_ret
        exact ⟨rfl, hb5⟩
end Go.Proofs.YtedpnjbbcfiheaaGreatDoor

import Derived.Test.YtedpnjbbcfiheaaGreatDoorFLB10
import Derived.Test.YtedpnjbbcfiheaaGreatDoorFLB01
import Derived.Test.YtedpnjbbcfiheaaGreatDoorFLB06
import Derived.Test.YtedpnjbbcfiheaaGreatDoorFLB24
import Derived.Deep.RegionLawGrows
set_option linter.unusedSimpArgs false
set_option linter.unusedSectionVars false
set_option linter.unusedVariables false
/- Walks of the generator: AFault, FaultList. -/
set_option linter.unusedVariables false
namespace Go.Proofs.YtedpnjbbcfiheaaGreatDoor
open Go.RowKit Go.Sc
def afShort (k : Int) : Bool := decide (3 ≤ k) && decide (k ≤ 5)
def afMany (xs : List Int) (b : Int) (k : Int) (m : Nat) : Nat := if afShort k = true then min ([2, 2, 3].getD (nx xs b 3).toNat 2) m else 1
def afB (b k : Int) : Int := if afShort k = true then b + 1 else b
def afSort (k : Int) (l : List Int) : List Int := if k = 5 then l.take 1 ++ sortZ (l.drop 1) else sortZ l
def afM (nets : Int) : Nat := (max nets 1).toNat
def afK (xs : List Int) (a : Int) : Int := 1 + nx xs a 6
def afNs (xs : List Int) (a nets : Int) : List Int := afSort (afK xs a) ((ordN xs (a + 1) (afM nets)).take (afMany xs (a + afM nets) (afK xs a) (afM nets)))
def afTail (xs : List Int) (b nets k : Int) (ns : List Int) : (Int × List Int) × Int :=
  if nx xs b 30 = 0 then
    if nx xs (b + 1) 4 = 0 then ((oddN xs (b + 2) 1 6, ns), b + 4)
    else if nx xs (b + 1) 4 = 1 then ((k, ns ++ [[0, 1, -1, nets, ns[0]?.getD 0].getD (nx xs (b + 2) 5).toNat 0]), b + 3)
    else if nx xs (b + 1) 4 = 2 then ((k, []), b + 2)
    else ((k, [0, 1, 2, 3, 4, 5, 6].take (5 + nx xs (b + 2) 3).toNat), b + 3)
  else ((k, ns), b + 1)
def afault (xs : List Int) (a nets : Int) : (Int × List Int) × Int := afTail xs (afB (a + afM nets) (afK xs a)) nets (afK xs a) (afNs xs a nets)
theorem pick223 (xs : List Int) (a : Int) : ([2, 2, 3].getD (nx xs a 3).toNat 0 : Int) = ((([2, 2, 3] : List Nat).getD (nx xs a 3).toNat 2 : Nat) : Int) := by
  have n0 := nx_lo xs a 3
  have n1 := nx_lt xs a 3 (by omega)
  generalize nx xs a 3 = i at *
  obtain ⟨i, rfl⟩ := Int.eq_ofNat_of_zero_le n0
  have : i < 3 := by omega
  match i, this with
  | 0, _ => rfl
  | 1, _ => rfl
  | 2, _ => rfl
theorem afMany_bd (xs : List Int) (b k : Int) (m : Nat) (hm : 1 ≤ m) : 1 ≤ afMany xs b k m ∧ afMany xs b k m ≤ m := by
  unfold afMany
  split
  · have n0 := nx_lo xs b 3
    have n1 := nx_lt xs b 3 (by omega)
    generalize nx xs b 3 = i at *
    obtain ⟨i, rfl⟩ := Int.eq_ofNat_of_zero_le n0
    have : i < 3 := by omega
    match i, this with
    | 0, _ => simp; omega
    | 1, _ => simp; omega
    | 2, _ => simp; omega
  · omega
theorem afM_bd (nets : Int) (h0 : 0 ≤ nets) (h1 : nets ≤ 100) : 1 ≤ afM nets ∧ afM nets ≤ 100 ∧ max nets 1 = (afM nets : Int) := by
  unfold afM
  omega
theorem afSort_len (k : Int) (l : List Int) : (afSort k l).length = l.length := by
  unfold afSort
  split
  · rw [List.length_append, sortZ_len]; simp; omega
  · exact sortZ_len _
theorem cell_heap {w w' : World} (h : w'.heap = w.heap) (p : Addr) : w'.cell? p = w.cell? p := by unfold World.cell?; rw [h]
theorem hold_rd {w8 : World} {g q : Nat} {xs : List Value} {t : TypeId} {cs : Array Value} (h : Rd w8 1 (.slice (some ⟨g, 0, none⟩) q q) q xs) (hq : 0 < q) (W : World) (hW : W.heap = (w8.alloc (.cells cs t)).heap) (b : Addr) (e : some (⟨g, 0, none⟩ : Addr) = some b) (j : Nat) (u : Value) (hu : xs[j]? = some u) : W.cell? (b.add j) = some u := by
  injection e with e
  subst e
  obtain ⟨A', c', e1, _, _, _, h4⟩ := h
  obtain ⟨b', off', e2, hc⟩ := h4 hq
  injection e1 with e1 _ _
  rw [e2] at e1
  injection e1 with e1
  injection e1 with e1 e3
  subst e1; subst e3
  rw [cell_heap hW, add_plain]
  exact cell_below ((Below.refl _ _).alloc (Nat.le_refl _) _) _ _ (hc j u hu)
theorem hold_new {w8 : World} {t : TypeId} {x : Value} (W : World) (hW : W.heap = (w8.alloc (.cells #[x] t)).heap) (j : Nat) (u : Value) (hu : [x][j]? = some u) : W.cell? (Addr.add ⟨w8.heap.size, 0, none⟩ j) = some u := by
  rw [cell_heap hW, add_plain, World.cell?_alloc_at _ _ _ _ rfl, Nat.zero_add]
  simpa using hu
theorem rd_take {w : World} {A : Option Addr} {n c k : Nat} {xs : List Value} (h : Rd w 1 (.slice A n c) n xs) (hk : k ≤ n) : Rd w 1 (.slice A k c) k (xs.take k) := by
  obtain ⟨A', c', e, h1, h2, h3, h4⟩ := h
  injection e with e1 _ e2
  subst e1; subst e2
  refine ⟨A, c, rfl, by omega, h2, by rw [List.length_take]; omega, fun h => ?_⟩
  obtain ⟨b, off, e, hc⟩ := h4 (by omega)
  refine ⟨b, off, e, fun j u hu => hc j u ?_⟩
  have hj : j < k := by have := (List.getElem?_eq_some_iff.1 hu).1; simp at this; omega
  rwa [List.getElem?_take_of_lt hj] at hu
theorem sort_cells (l : List Int) (q off : Nat) (hq : q ≤ l.length) (ho : off ≤ q) (w w' : World) (g : Nat) (hcl : ∀ j, j < q → w.cell? ⟨g, j, none⟩ = some (.int .i64 (l[j]?.getD 0)))
    (h1 : ∀ j, j < q - off → w'.cell? ⟨g, off + j, none⟩ = some (.int .i64 ((sortZ ((l.take q).drop off))[j]?.getD 0))) (h2 : ∀ p u, (p.block ≠ g ∨ p.off < off ∨ off + (q - off) ≤ p.off) → w.cell? p = some u → w'.cell? p = some u) :
    ∀ j, j < q → w'.cell? ⟨g, j, none⟩ = some (.int .i64 (((l.take q).take off ++ sortZ ((l.take q).drop off))[j]?.getD 0)) := by
  intro j hj
  have hlt : ((l.take q).take off).length = off := by simp; omega
  by_cases h : j < off
  · rw [List.getElem?_append_left (by omega), h2 ⟨g, j, none⟩ _ (.inr (.inl h)) (hcl j hj), List.take_take, Nat.min_eq_left ho, List.getElem?_take_of_lt h]
  · rw [List.getElem?_append_right (by omega), hlt]
    have := h1 (j - off) (by omega)
    rwa [show off + (j - off) = j by omega] at this
def AfEnd (W : World) (f r g : Nat) (xs : List Int) (w : World) (out : (Int × List Int) × Int) : Prop :=
  ∃ nv, Box2 60 W f (.int .i64 out.1.1) nv ∧ Box2 60 W r (.int .i64 0) (.slice none 0 0) ∧ Rd W 1 nv out.1.2.length (out.1.2.map (.int .i64)) ∧ Strm TS W g xs out.2 ∧ w.grownBy W (some g) ∧ ∀ A m c, nv = .slice (some A) m c → A.block ≠ r
set_option maxRecDepth 100000 in
set_option maxHeartbeats 2000000 in
theorem AFault_any (g : Nat) (xs : List Int) (a nets : Int) (w : World) (hs : Strm TS w g xs a) (ha : a + 200 < 1000000000) (h0 : 0 ≤ nets) (h1 : nets ≤ 100) :
    Calls Tryz.prog 54 #[.pointer (some ⟨g, 0, none⟩), .int .i64 nets] w fun e w' => ∃ nv, e = .returned (.agg #[.int .i64 (afault xs a nets).1.1, nv]) ∧ Rd w' 1 nv (afault xs a nets).1.2.length ((afault xs a nets).1.2.map (.int .i64)) ∧ Strm TS w' g xs (afault xs a nets).2 ∧ w.grownBy w' (some g) := by
  have hgl := hs.lt
  have haa := hs.lo
  obtain ⟨m1, m2, m3⟩ := afM_bd nets h0 h1
  have HAF : Hid (afault xs a nets = afTail xs (afB (a + afM nets) (afK xs a)) nets (afK xs a) (afNs xs a nets)) := rfl
  have HNS : Hid (afNs xs a nets = afSort (afK xs a) ((ordN xs (a + 1) (afM nets)).take (afMany xs (a + afM nets) (afK xs a) (afM nets)))) := rfl
  have HK : Hid (1 + nx xs a 6 = afK xs a) := rfl
  have HM := Lib.hid m3
  clear m3
  generalize afM nets = m at *
  go_enter Tryz.func54, Tryz.ntmps54
  go_wp2_with fail
  refine (Range_any g xs a 1 6 _ (hs.alloc _) (by omega) (by omega) (by omega) (by omega) (by omega)).mono ?_
  rintro e w1 ⟨rfl, hs1, hg1⟩
  have hgw1 := World.grownBy.trans' (gb_alloc (gb_refl w (some g)) _) hg1
  have n0 := nx_lo xs a 6
  have n1 := nx_lt xs a 6 (by omega)
  rw [show (6 : Int) - 1 + 1 = 6 from rfl, HK.out]
  have hk1 : 1 ≤ afK xs a := by rw [← HK.out]; omega
  have hk6 : afK xs a ≤ 6 := by rw [← HK.out]; omega
  clear n0 n1
  generalize afK xs a = k at *
  generalize afNs xs a nets = ns at *
  have hl1 := hs1.lt
  have hw1 := hgw1.size
  have HB1 := Lib.hid (Box2.new 60 w1 (.int .i64 k) (.slice none 0 0))
  have HR1 : Hid (Box2 60 w1 w.heap.size (.int .i64 0) (.slice none 0 0)) := (Box2.new 60 w (.int .i64 0) (.slice none 0 0)).grown hg1 (fun k hk => by injection hk with hk; omega)
  go_wp2_with fail
  rw [HM.out]
  refine (Order_any g xs (a + 1) m _ (hs1.alloc _) (by omega) m1 (by omega)).mono ?_
  rintro e w2 ⟨v2, rfl, hown2, hs2, hg2⟩
  obtain ⟨g1, cap, rfl, hgb1, hglt⟩ := hown2.form (by omega)
  have hsz1 : (w1.alloc (.cells #[.int .i64 k, .slice none 0 0] 60)).heap.size = w1.heap.size + 1 := by simp
  rw [hsz1] at hown2
  have HB2 : Hid (Box2 60 w2 w1.heap.size (.int .i64 k) (.slice none 0 0)) := HB1.out.grown hg2 (fun k hk => by injection hk with hk; omega)
  have HR2 : Hid (Box2 60 w2 w.heap.size (.int .i64 0) (.slice none 0 0)) := (HR1.out.alloc _).grown hg2 (fun k hk => by injection hk with hk; omega)
  have hgw2 := World.grownBy.trans' (gb_alloc hgw1 _) hg2
  rw [show a + 1 + (m : Int) - 1 = a + m by omega] at hs2
  have hf : g < w1.heap.size := hl1
  have hfr : w.heap.size < w1.heap.size := by have := HR1.out.lt; exact this
  have hfg : w1.heap.size < g1 := by omega
  generalize w1.heap.size = f at *
  clear hg2 HB1 HR1 hgw1 hsz1 hg1 hs1 hs hl1 hw1
  have b0 := HB2.out.cell0
  have b1 := HB2.out.cell1
  go_upto_region 4 with fail
  go_cut [22] from 15 to 22 (fun v wx => v = .bool (afShort k) ∧ wx = w2)
  case first =>
    by_cases e3 : 3 ≤ k
    · by_cases e5 : k ≤ 5
      · go_wp2_with fail
        go_meet
        exact ⟨by simp [afShort]; omega, rfl⟩
      · go_wp2_with fail
        go_meet
        exact ⟨by simp [afShort]; omega, rfl⟩
    · go_wp2_with fail
      go_meet
      exact ⟨by simp [afShort]; omega, rfl⟩
  case rest =>
    obtain ⟨hv, hwc⟩ := hcut
    rw [hwc]
    subst hv
    clear hwc
    go_upto_if 22 with fail
    have HMY : Hid (afMany xs (a + m) k m = if afShort k = true then min ([2, 2, 3].getD (nx xs (a + m) 3).toNat 2) m else 1) := rfl
    have HBB : Hid (afB (a + m) k = if afShort k = true then a + m + 1 else a + m) := rfl
    go_cut [7] from 22 to 28 (fun v wx => v = .int .i64 (afMany xs (a + m) k m : Nat) ∧ Strm TS wx g xs (afB (a + m) k) ∧ wx.ownsRow (f + 1) 3 1 (.slice (some ⟨g1, 0, none⟩) m cap) m ((ordN xs (a + 1) m).map (.int .i64)) ∧ Hid (Box2 60 wx f (.int .i64 k) (.slice none 0 0) ∧ Box2 60 wx w.heap.size (.int .i64 0) (.slice none 0 0)) ∧ w.grownBy wx (some g))
    case first =>
      cases hsh : afShort k
      · have HM1 : Hid (afMany xs (a + m) k m = 1) := by show _ = _; rw [HMY.out, if_neg (by rw [hsh]; decide)]
        have HB1 : Hid (afB (a + m) k = a + m) := by show _ = _; rw [HBB.out, if_neg (by rw [hsh]; decide)]
        go_wp2_with fail
        go_meet
        exact ⟨by rw [HM1.out]; rfl, by rw [HB1.out]; exact hs2, own_mono hown2 (by omega), ⟨HB2.out, HR2.out⟩, hgw2⟩
      · have hl2 := hs2.lt
        have HM1 : Hid (afMany xs (a + m) k m = min ([2, 2, 3].getD (nx xs (a + m) 3).toNat 2) m) := by show _ = _; rw [HMY.out, if_pos hsh]
        have HB1 : Hid (afB (a + m) k = a + m + 1) := by show _ = _; rw [HBB.out, if_pos hsh]
        have HP := Lib.hid (pick223 xs (a + m))
        go_wp2_with fail
        refine (Pick_any g xs (a + m) _ 3 [2, 2, 3] _ (hs2.alloc _) (by omega) (by omega) (by omega) (rd_alloc w2 _ _ 3 rfl (by decide)) (by rintro A m c e; injection e with e _ _; injection e with e; subst e; show w2.heap.size ≠ g; omega)).mono ?_
        rintro e w3 ⟨rfl, hs3, hg3⟩
        rw [show ((3 : Nat) : Int) = 3 from rfl, HP.out]
        have hgw3 := World.grownBy.trans' (gb_alloc hgw2 _) hg3
        have hown3 := own_strm (hown2.alloc _) hg3 (by omega)
        have HB3 : Hid (Box2 60 w3 f (.int .i64 k) (.slice none 0 0)) := (HB2.out.alloc _).grown hg3 (fun k hk => by injection hk with hk; omega)
        have HR3 : Hid (Box2 60 w3 w.heap.size (.int .i64 0) (.slice none 0 0)) := (HR2.out.alloc _).grown hg3 (fun k hk => by injection hk with hk; omega)
        generalize [2, 2, 3].getD (nx xs (a + m) 3).toNat 2 = q at *
        go_wp2_with fail
        go_meet
        exact ⟨by rw [HM1.out]; congr 1; omega, by rw [HB1.out]; exact hs3, own_mono hown3 (by omega), ⟨HB3.out, HR3.out⟩, hgw3⟩
    case rest =>
      obtain ⟨hv, hs3, hown3, HBX, hgw3⟩ := hcut
      have hq1 := afMany_bd xs (a + m) k m m1
      have HNQ : Hid (ns = afSort k ((ordN xs (a + 1) m).take (afMany xs (a + m) k m))) := HNS.out
      obtain ⟨HB3, HR3⟩ := HBX.out
      subst hv
      generalize afMany xs (a + m) k m = q at *
      obtain ⟨hq1, hq2⟩ := hq1
      have hcap : m ≤ cap ∧ cap ≤ maxLen := by
        obtain ⟨A, c, e, h1, h2, _⟩ := Rd.of_own hown3
        injection e with _ _ e3
        subst e3
        exact ⟨h1, h2⟩
      obtain ⟨hc1, hc2⟩ := hcap
      have hc3 : q ≤ cap := by omega
      have b0 := HB3.cell0
      have b1 := HB3.cell1
      have bf := HB3.frozen 1
      clear HB2 HR2 hs2 hown2 hgw2 HBX
      have hb4 : Box2 60 (wc.setCell ⟨f, 1, none⟩ (.slice (some ⟨g1, 0, none⟩) q q)) f (.int .i64 k) (.slice (some ⟨g1, 0, none⟩) q q) := HB3.set1 _
      have hr4 : Box2 60 (wc.setCell ⟨f, 1, none⟩ (.slice (some ⟨g1, 0, none⟩) q q)) w.heap.size (.int .i64 0) (.slice none 0 0) := HR3.other _ (by show f ≠ w.heap.size; omega) _
      have hs4 : Strm TS (wc.setCell ⟨f, 1, none⟩ (.slice (some ⟨g1, 0, none⟩) q q)) g xs (afB (a + m) k) := hs3.far (by show g < f; omega) _
      have hgw4 : w.grownBy (wc.setCell ⟨f, 1, none⟩ (.slice (some ⟨g1, 0, none⟩) q q)) (some g) := gb_setCell hgw3 (.inr (by show w.heap.size ≤ f; omega)) _
      have hown4 : (wc.setCell ⟨f, 1, none⟩ (.slice (some ⟨g1, 0, none⟩) q q)).ownsRow (f + 1) 3 1 (.slice (some ⟨g1, 0, none⟩) m cap) m ((ordN xs (a + 1) m).map (.int .i64)) :=
        own_grown hown3 (gb_setCell (gb_refl wc (some f)) (.inl rfl) _) (fun kk hk e => by have h1 : f = kk := Option.some.inj hk; have h2 : g1 = kk := Option.some.inj e; omega)
      have hc0 := hb4.cell0
      have hc1' := hb4.cell1
      go_upto_if 36 with fail
      generalize wc.setCell ⟨f, 1, none⟩ (.slice (some ⟨g1, 0, none⟩) q q) = w4 at *
      go_cut [] from 36 to 43 (fun wx => Hid (∀ j, j < q → wx.cell? ⟨g1, j, none⟩ = some (.int .i64 (ns[j]?.getD 0))) ∧ Strm TS wx g xs (afB (a + m) k) ∧ Hid (Box2 60 wx f (.int .i64 k) (.slice (some ⟨g1, 0, none⟩) q q) ∧ Box2 60 wx w.heap.size (.int .i64 0) (.slice none 0 0)) ∧ w.grownBy wx (some g))
      case first =>
        have hglt4 : g1 < w4.heap.size := (own_lt hown4 rfl).2
        have hll : (ordN xs (a + 1) m).length = m := by have := hown4.1; simpa using this
        have HNQ2 := HNQ
        generalize ordN xs (a + 1) m = l at *
        have hcl : ∀ j, j < m → w4.cell? ⟨g1, j, none⟩ = some (.int .i64 (l[j]?.getD 0)) := fun j hj => own_cell_int hown4 j hj
        have HCL := Lib.hid hcl
        have HFZ := Lib.hid (fun j => hown4.frozenAt j)
        have HLL := Lib.hid hll
        clear hcl hll hown3 hs3 hgw3 HB3 HR3
        have hq0 : 1 ≤ q := hq1
        have hlq : (l.take q).length = q := by rw [List.length_take, HLL.out]; omega
        have HLQ := Lib.hid hlq
        clear hlq
        have HNA : Hid (ns = afSort k (l.take q)) := HNQ2.out
        by_cases hk5 : k = 5
        · have e5 : (k == 5) = true := beq_iff_eq.2 hk5
          have HA5 : Hid (ns = (l.take q).take 1 ++ sortZ ((l.take q).drop 1)) := by show _ = _; rw [HNA.out, afSort, if_pos hk5]
          clear hk5
          by_cases hq1' : q = 1
          · subst hq1'
            have HSP := Lib.hid (Sort_part g1 0 0 0 [] w4 rfl (by omega) hglt4 (fun j hj => by omega) HFZ.out)
            go_wp2_with (go_at_call 50; refine HSP.out.mono ?_; rintro e w5 ⟨rfl, hsc, hso, hsg⟩)
            go_meet
            refine ⟨fun j hj => ?_, hs4.grown hsg (fun kk hk => by injection hk with hk; omega), ⟨hb4.grown hsg (fun kk hk => by injection hk with hk; omega), hr4.grown hsg (fun kk hk => by injection hk with hk; omega)⟩, gb_own hgw4 hsg (fun kk hk => by injection hk with hk; omega)⟩
            have := sort_cells l 1 1 (by rw [HLL.out]; omega) (by omega) w4 w5 g1 (fun j hj => HCL.out j (by omega)) (fun j hj => by omega) (fun p u _ hu => hso p u (.inr (.inr (by omega))) hu) j hj
            rw [HA5.out]
            exact this
          · have HSP := Lib.hid (Sort_part g1 1 (q - 1) (q - 1) ((l.take q).drop 1) w4 (by rw [List.length_drop, HLQ.out]) (by simp only [maxLen] at hc2; omega) hglt4 (fun j hj => by
              rw [HCL.out (1 + j) (by omega), List.getElem?_drop, List.getElem?_take_of_lt (by omega)]) HFZ.out)
            have hq2' : 2 ≤ q := by omega
            have hqc : ((q : Nat) : Int) - 1 = ((q - 1 : Nat) : Int) := by omega
            have hne1 : ¬ (q = 1) := hq1'
            go_wp2_with (go_at_call 50; refine HSP.out.mono ?_; rintro e w5 ⟨rfl, hsc, hso, hsg⟩)
            go_meet
            refine ⟨fun j hj => ?_, hs4.grown hsg (fun kk hk => by injection hk with hk; omega), ⟨hb4.grown hsg (fun kk hk => by injection hk with hk; omega), hr4.grown hsg (fun kk hk => by injection hk with hk; omega)⟩, gb_own hgw4 hsg (fun kk hk => by injection hk with hk; omega)⟩
            have := sort_cells l q 1 (by rw [HLL.out]; omega) (by omega) w4 w5 g1 (fun j hj => HCL.out j (by omega)) hsc hso j hj
            rw [HA5.out]
            exact this
        · have e5 : (k == 5) = false := beq_eq_false_iff_ne.2 hk5
          have HA5 : Hid (ns = sortZ (l.take q)) := by show _ = _; rw [HNA.out, afSort, if_neg hk5]
          clear hk5
          have HSP := Lib.hid (Sort_part g1 0 q q (l.take q) w4 HLQ.out (by simp only [maxLen] at hc2; omega) hglt4 (fun j hj => by
              rw [Nat.zero_add, HCL.out j (by omega), List.getElem?_take_of_lt (by omega)]) HFZ.out)
          go_wp2_with (go_at_call 50; refine HSP.out.mono ?_; rintro e w5 ⟨rfl, hsc, hso, hsg⟩)
          go_meet
          refine ⟨fun j hj => ?_, hs4.grown hsg (fun kk hk => by injection hk with hk; omega), ⟨hb4.grown hsg (fun kk hk => by injection hk with hk; omega), hr4.grown hsg (fun kk hk => by injection hk with hk; omega)⟩, gb_own hgw4 hsg (fun kk hk => by injection hk with hk; omega)⟩
          have := hsc j hj
          rw [Nat.zero_add] at this
          rw [HA5.out]
          exact this
      case rest =>
        obtain ⟨HCN, hs5, HB5, hgw5⟩ := hcut
        obtain ⟨hb5, hr5⟩ := HB5.out
        have hnl : ns.length = q := by rw [HNQ.out, afSort_len, List.length_take]; have := hown4.1; simp at this; omega
        have HNL := Lib.hid hnl
        have HRN : Hid (Rd wc 1 (.slice (some ⟨g1, 0, none⟩) q q) q (ns.map (.int .i64))) := by
          refine ⟨_, q, rfl, Nat.le_refl _, by omega, by simp [hnl], fun _ => ⟨g1, 0, rfl, fun j u hu => ?_⟩⟩
          rw [Nat.zero_add]
          have hj : j < ns.length := by have := (List.getElem?_eq_some_iff.1 hu).1; simpa using this
          rw [HCN.out j (by omega)]
          rw [getD_map_int _ _ _ hj] at hu
          exact hu
        have hB0 : 0 ≤ afB (a + m) k := hs5.lo
        have hB1 : afB (a + m) k + 10 < 1000000000 := by rw [HBB.out]; split <;> omega
        generalize afB (a + m) k = B at *
        clear hnl HNQ HB5 hown4 hs4 hb4 hr4 hgw4 hc0 hc1' b0 b1 bf HBB HK HMY HNS hs3 hown3 hgw3 HB3 HR3
        go_upto_if 45 with (go_at_call 22; refine (Flip_any g xs B 30 _ hs5 (by omega) (by omega) (by omega)).mono ?_; rintro e w6 ⟨rfl, hs6, hg6⟩)
        have hb6 : Box2 60 w6 f (.int .i64 k) (.slice (some ⟨g1, 0, none⟩) q q) := hb5.grown hg6 (fun kk hk => by injection hk with hk; omega)
        have hr6 : Box2 60 w6 w.heap.size (.int .i64 0) (.slice none 0 0) := hr5.grown hg6 (fun kk hk => by injection hk with hk; omega)
        have HRN6 : Hid (Rd w6 1 (.slice (some ⟨g1, 0, none⟩) q q) q (ns.map (.int .i64))) := HRN.out.grown hg6 (fun A' m' c' b' e1 e2 => by injection e1 with e1 _ _; injection e1 with e1; subst e1; injection e2 with e2; show g1 ≠ b'; omega)
        have hgw6 := World.grownBy.trans' hgw5 hg6
        clear hs5 hb5 hr5 HRN hgw5 hg6 HCN
        go_cut [] from 45 to 75 (fun wx => AfEnd wx f w.heap.size g xs w (afTail xs B nets k ns))
        case first =>
          have n0 := nx_lo xs (B + 1) 4
          have n1 := nx_lt xs (B + 1) 4 (by omega)
          have hl6 := hs6.lt
          by_cases hfl : nx xs B 30 = 0
          · have hfb : (nx xs B 30 == 0) = true := beq_iff_eq.2 hfl
            have HT : Hid (afTail xs B nets k ns = if nx xs (B + 1) 4 = 0 then ((oddN xs (B + 2) 1 6, ns), B + 4)
                else if nx xs (B + 1) 4 = 1 then ((k, ns ++ [[0, 1, -1, nets, ns[0]?.getD 0].getD (nx xs (B + 2) 5).toNat 0]), B + 3)
                else if nx xs (B + 1) 4 = 2 then ((k, []), B + 2)
                else ((k, [0, 1, 2, 3, 4, 5, 6].take (5 + nx xs (B + 2) 3).toNat), B + 3)) := by show _ = _; rw [afTail, if_pos hfl]
            clear hfl
            generalize afTail xs B nets k ns = out at *
            go_wp2_with fail
            refine (Next_any g xs (B + 1) 4 _ hs6 (by omega) (by omega) (by omega)).mono ?_
            rintro e w7 ⟨rfl, hs7, hg7⟩
            have hb7 : Box2 60 w7 f (.int .i64 k) (.slice (some ⟨g1, 0, none⟩) q q) := hb6.grown hg7 (fun kk hk => by injection hk with hk; omega)
            have hr7 : Box2 60 w7 w.heap.size (.int .i64 0) (.slice none 0 0) := hr6.grown hg7 (fun kk hk => by injection hk with hk; omega)
            have HRN7 : Hid (Rd w7 1 (.slice (some ⟨g1, 0, none⟩) q q) q (ns.map (.int .i64))) := HRN6.out.grown hg7 (fun A' m' c' b' e1 e2 => by injection e1 with e1 _ _; injection e1 with e1; subst e1; injection e2 with e2; show g1 ≠ b'; omega)
            have hgw7 := World.grownBy.trans' hgw6 hg7
            rw [show B + 1 + 1 = B + 2 by omega] at hs7
            clear hs6 hb6 hr6 HRN6 hgw6 hg7
            have hi4 : nx xs (B + 1) 4 = 0 ∨ nx xs (B + 1) 4 = 1 ∨ nx xs (B + 1) 4 = 2 ∨ nx xs (B + 1) 4 = 3 := by omega
            have hl7 := hs7.lt
            have b0 := hb7.cell0
            have b1 := hb7.cell1
            have bf := hb7.frozen
            generalize nx xs (B + 1) 4 = i at *
            rcases hi4 with rfl | rfl | rfl | rfl
            · have HO : Hid (out = ((oddN xs (B + 2) 1 6, ns), B + 4)) := HT.out
              go_wp2_with (go_at_call 74; refine (Odd_any g xs (B + 2) 1 6 _ hs7 (by omega) (by omega) (by omega) (by omega)).mono ?_; rintro e w8 ⟨rfl, hs8, hg8⟩; have hb8 : Box2 60 w8 f (.int .i64 k) (.slice (some ⟨g1, 0, none⟩) q q) := hb7.grown hg8 (fun kk hk => by injection hk with hk; omega); have c0 := hb8.cell0; have cf := hb8.frozen)
              go_meet
              have hb8 : Box2 60 w8 f (.int .i64 k) (.slice (some ⟨g1, 0, none⟩) q q) := hb7.grown hg8 (fun kk hk => by injection hk with hk; omega)
              have hr8 : Box2 60 w8 w.heap.size (.int .i64 0) (.slice none 0 0) := hr7.grown hg8 (fun kk hk => by injection hk with hk; omega)
              have HRN8 : Rd w8 1 (.slice (some ⟨g1, 0, none⟩) q q) q (ns.map (.int .i64)) := HRN7.out.grown hg8 (fun A' m' c' b' e1 e2 => by injection e1 with e1 _ _; injection e1 with e1; subst e1; injection e2 with e2; show g1 ≠ b'; omega)
              have hg9 := gb_setCell (p := ⟨f, 0, none⟩) (World.grownBy.trans' hgw7 hg8) (.inr (by show w.heap.size ≤ f; omega)) (.int .i64 (oddN xs (B + 2) 1 6))
              have hg10 := gb_setCell (p := ⟨f, 0, none⟩) (gb_refl w8 (some f)) (.inl rfl) (.int .i64 (oddN xs (B + 2) 1 6))
              rw [HO.out]
              exact ⟨_, hb8.set0 _, hr8.other ⟨f, 0, none⟩ (by show f ≠ w.heap.size; omega) _, by rw [HNL.out]; exact HRN8.grown hg10 (fun A' m' c' b' e1 e2 => by injection e1 with e1 _ _; injection e1 with e1; subst e1; injection e2 with e2; show g1 ≠ b'; omega), by have := hs8.far (p := ⟨f, 0, none⟩) (by show g < f; omega) (.int .i64 (oddN xs (B + 2) 1 6)); rwa [show B + 2 + 2 = B + 4 by omega] at this, hg9, fun A m c e => by injection e with e; injection e with e; subst e; show g1 ≠ _; omega⟩
            · have HO : Hid (out = ((k, ns ++ [[0, 1, -1, nets, ns[0]?.getD 0].getD (nx xs (B + 2) 5).toNat 0]), B + 3)) := HT.out
              obtain ⟨i0, hi, hz0, hz1, hz2⟩ := info_parts info3
              have hx0 : w7.cell? ⟨g1, 0, none⟩ = some (.int .i64 (ns[0]?.getD 0)) := by
                obtain ⟨A', c', e, _, _, _, h4⟩ := HRN7.out
                obtain ⟨b', off', e', hc⟩ := h4 hq1
                injection e with e1 _ _
                rw [e'] at e1
                injection e1 with e1
                injection e1 with e1 e2
                subst e1; subst e2
                exact hc 0 _ (getD_map_int _ _ _ (by rw [HNL.out]; omega))
              have HPK : Hid ([0, 1, -1, nets, ns[0]?.getD 0].getD (nx xs (B + 2) 5).toNat 0 = [0, 1, -1, nets, ns[0]?.getD 0].getD (nx xs (B + 2) 5).toNat 0) := rfl
              generalize hx : ns[0]?.getD 0 = x0 at *
              have HX0 := Lib.hid hx
              clear hx
              generalize hpk : [0, 1, -1, nets, x0].getD (nx xs (B + 2) 5).toNat 0 = pk at HPK HO
              have HPK2 := Lib.hid hpk
              have hw7 : w7.heap.size ≠ g := by omega
              have hb70 : Below w7.heap.size w7 (w7.alloc (.cells #[.int .i64 0, .int .i64 1, .int .i64 (-1), .int .i64 nets, .int .i64 x0] 3)).drew := ((Below.refl _ _).alloc (Nat.le_refl _) _).drew
              have HRA := Lib.hid (rd_alloc w7 [.int .i64 0, .int .i64 1, .int .i64 (-1), .int .i64 nets, .int .i64 x0] 3 5 rfl (by decide))
              have HSA := Lib.hid (strm_drew (hs7.alloc (.cells #[.int .i64 0, .int .i64 1, .int .i64 (-1), .int .i64 nets, .int .i64 x0] 3)))
              have HBA := Lib.hid (hb7.below hb70)
              have HRR := Lib.hid (hr7.below hb70)
              have HGA := Lib.hid (gb_below hgw7 hb70)
              have HRN8 := Lib.hid (HRN7.out.below hb70)
              clear hpk
              go_wp2_with fail
              have hqp : 0 < q := hq1
              have dA := (hb7.alloc (.cells #[.int .i64 0, .int .i64 1, .int .i64 (-1), .int .i64 nets, .int .i64 x0] 3)).cell1
              have HLM : Hid ((ns.map (Value.int .i64)).length = q * 1) := by show _ = _; rw [List.length_map, HNL.out, Nat.mul_one]
              go_region_law (first
                | (refine step_append_grows rfl _ _ 22 rfl 3 i0 (.int .i64 0) 1 8 Tryz.underlying22 hi hz0 hz1 hz2 rfl (by decide) (some ⟨g1, 0, none⟩) q q (ns.map (.int .i64)) rfl (fun h => by cases h) HLM.out (fun b' e j u hu => hold_rd HRN9.out hqp _ rfl b' e j u hu) ⟨w8.heap.size, 0, none⟩ 1 1 [.int .i64 pk] rfl rfl (fun j u hu => hold_new _ rfl j u hu) (by simp [Value.oneCell']) (by omega) (by unfold maxLen; omega) (by omega) ?_; intro v9 w9 hown9 hg9; obtain ⟨g9, cap9, rfl, hgb9, hglt9⟩ := hown9.form (by omega); have hg9' : (w8.alloc (.cells #[.int .i64 pk] 3)).grownBy w9 none := ⟨hg9.os, hg9.tape, hg9.output, hg9.size, hg9.block⟩; have hb9 := (hb8.alloc (.cells #[.int .i64 pk] 3)).grown hg9' (fun kk hk => by cases hk); have c91 := hb9.cell1; have cf9 := hb9.frozen)
                | (go_simp; go_at_call 20; (refine (Pick_any g xs (B + 2) _ 5 [0, 1, -1, nets, x0] _ HSA.out (by omega) (by omega) (by omega) (HRA.out.keep (fun p u h => h)) (by rintro A m c e; injection e with e; injection e with e; subst e; exact hw7)).mono ?_; rintro e w8 ⟨rfl, hs8, hg8⟩; rw [show ((5 : Nat) : Int) = 5 from rfl, HPK2.out]; have hb8 := HBA.out.grown hg8 (fun kk hk => by injection hk with hk; omega); have c81 := hb8.cell1; have c82 := (hb8.alloc (.cells #[.int .i64 pk] 3)).cell1; have cf8 := hb8.frozen; have HRN9 := Lib.hid (HRN8.out.grown hg8 (fun A' m' c' b' e1 e2 => by injection e1 with e1 _ _; injection e1 with e1; subst e1; injection e2 with e2; show g1 ≠ b'; omega)); have x8 : w8.cell? ⟨g1, 0, none⟩ = some (.int .i64 x0) := hg8.cell (cell_below hb70 _ _ hx0) (fun e => by injection e with e; have e2 : g1 = g := e; omega))))
              all_goals (go_wp2_with fail; go_meet)
              all_goals
                rw [HO.out]
                have hr9 := ((HRR.out.grown hg8 (fun kk hk => by injection hk with hk; omega)).alloc (.cells #[.int .i64 pk] 3)).grown hg9' (fun kk hk => by cases hk)
                have hs9 := (hs8.alloc (.cells #[.int .i64 pk] 3)).grown hg9' (fun kk hk => by cases hk)
                have hgw9 := gb_own (gb_alloc (World.grownBy.trans' HGA.out hg8) (.cells #[.int .i64 pk] 3)) hg9' (fun kk hk => by cases hk)
                have hf9 : f < w8.heap.size := hb8.lt
                have hw8 : w7.heap.size + 1 ≤ w8.heap.size := by have := hg8.size; simp at this; exact this
                have hgb9' : w8.heap.size ≤ g9 := by simp at hgb9; omega
                have hwl : w.heap.size ≤ w7.heap.size := hgw7.size
                have hg10 := gb_setCell (p := ⟨f, 1, none⟩) (gb_refl w9 (some f)) (.inl rfl) (.slice (some ⟨g9, 0, none⟩) (q + 1) cap9)
                have hrd9 := (Rd.of_own hown9).grown hg10 (fun A' m' c' b' e1 e2 => by injection e1 with e1 _ _; injection e1 with e1; subst e1; injection e2 with e2; show g9 ≠ b'; omega)
                have hsC := hs9.far (p := ⟨f, 1, none⟩) (by show g < f; omega) (.slice (some ⟨g9, 0, none⟩) (q + 1) cap9)
                have hgC := gb_setCell (p := ⟨f, 1, none⟩) hgw9 (.inr (by show w.heap.size ≤ f; omega)) (.slice (some ⟨g9, 0, none⟩) (q + 1) cap9)
                refine ⟨_, hb9.set1 _, hr9.other ⟨f, 1, none⟩ (by show f ≠ w.heap.size; omega) _, ?_, by first | rwa [show B + 2 + 1 = B + 3 by omega] at hsC | (have hsD := strm_drew hsC; rwa [show B + 2 + 1 = B + 3 by omega] at hsD), by first | exact hgC | exact gb_drew hgC, fun A m c e => by injection e with e; injection e with e; subst e; show g9 ≠ _; omega⟩
                show Rd _ 1 _ (ns ++ [pk]).length ((ns ++ [pk]).map (Value.int .i64))
                rw [List.length_append, HNL.out, List.map_append]
                exact hrd9
            · have HO : Hid (out = ((k, []), B + 2)) := HT.out
              have hb8 := hb7.set1 (.slice none 0 0)
              have hr8 := hr7.other ⟨f, 1, none⟩ (by show f ≠ w.heap.size; omega) (.slice none 0 0)
              have hs8 := hs7.far (p := ⟨f, 1, none⟩) (by show g < f; omega) (.slice none 0 0)
              have hg8 := gb_setCell (p := ⟨f, 1, none⟩) hgw7 (.inr (by show w.heap.size ≤ f; omega)) (.slice none 0 0)
              go_wp2_with fail
              go_meet
              rw [HO.out]
              exact ⟨_, hb8, hr8, Rd.nil _ _, hs8, hg8, fun A m c e => by injection e with e; cases e⟩
            · have HO : Hid (out = ((k, [0, 1, 2, 3, 4, 5, 6].take (5 + nx xs (B + 2) 3).toNat), B + 3)) := HT.out
              have q0 := nx_lo xs (B + 2) 3
              have q1 := nx_lt xs (B + 2) 3 (by omega)
              obtain ⟨r3, hr3⟩ := Int.eq_ofNat_of_zero_le q0
              have HR3 : Hid (nx xs (B + 2) 3 = (r3 : Int)) := hr3
              have hr3' : r3 < 3 := by omega
              have hw7 : w7.heap.size ≠ g := by omega
              have HRA := Lib.hid (rd_alloc w7 [.int .i64 0, .int .i64 1, .int .i64 2, .int .i64 3, .int .i64 4, .int .i64 5, .int .i64 6] 3 7 rfl (by decide))
              have hbA := hb7.alloc (.cells #[.int .i64 0, .int .i64 1, .int .i64 2, .int .i64 3, .int .i64 4, .int .i64 5, .int .i64 6] 3)
              have hrA := hr7.alloc (.cells #[.int .i64 0, .int .i64 1, .int .i64 2, .int .i64 3, .int .i64 4, .int .i64 5, .int .i64 6] 3)
              have hgA := gb_alloc hgw7 (.cells #[.int .i64 0, .int .i64 1, .int .i64 2, .int .i64 3, .int .i64 4, .int .i64 5, .int .i64 6] 3)
              have hsA := hs7.alloc (.cells #[.int .i64 0, .int .i64 1, .int .i64 2, .int .i64 3, .int .i64 4, .int .i64 5, .int .i64 6] 3)
              clear hr3
              go_wp2_with fail
              refine (Range_any g xs (B + 2) 5 7 _ hsA (by omega) (by omega) (by omega) (by omega) (by omega)).mono ?_
              rintro e w8 ⟨rfl, hs8, hg8⟩
              rw [show (7 : Int) - 5 + 1 = 3 from rfl, HR3.out]
              have hb8 : Box2 60 w8 f (.int .i64 k) (.slice (some ⟨g1, 0, none⟩) q q) := hbA.grown hg8 (fun kk hk => by injection hk with hk; omega)
              have hr8 : Box2 60 w8 w.heap.size (.int .i64 0) (.slice none 0 0) := hrA.grown hg8 (fun kk hk => by injection hk with hk; omega)
              have c0 := hb8.cell1
              have cf := hb8.frozen
              have HRB := Lib.hid (HRA.out.grown hg8 (fun A' m' c' b' e1 e2 => by injection e1 with e1 _ _; injection e1 with e1; subst e1; injection e2 with e2; show w7.heap.size ≠ b'; omega))
              have hgB := World.grownBy.trans' hgA hg8
              have hlw : w.heap.size ≤ w7.heap.size := hgw7.size
              have hfw : f < w7.heap.size := hb7.lt
              clear hb7 hr7 HRN7 hgw7 hbA hrA hgA hsA hg8 HRA
              go_wp2_with fail
              go_meet
              have hRC := rd_take HRB.out (show 5 + r3 ≤ 7 by omega)
              have hg10 := gb_setCell (p := ⟨f, 1, none⟩) (gb_refl w8 (some f)) (.inl rfl) (.slice (some ⟨w7.heap.size, 0, none⟩) (5 + r3) 7)
              have hRD := hRC.grown hg10 (fun A' m' c' b' e1 e2 => by injection e1 with e1 _ _; injection e1 with e1; subst e1; injection e2 with e2; show w7.heap.size ≠ b'; omega)
              have hgC := gb_setCell (p := ⟨f, 1, none⟩) hgB (.inr (by show w.heap.size ≤ f; omega)) (.slice (some ⟨w7.heap.size, 0, none⟩) (5 + r3) 7)
              have hsC := hs8.far (p := ⟨f, 1, none⟩) (by show g < f; omega) (.slice (some ⟨w7.heap.size, 0, none⟩) (5 + r3) 7)
              have e3 : (5 + nx xs (B + 2) 3).toNat = 5 + r3 := by rw [HR3.out]; omega
              have e4 : (([0, 1, 2, 3, 4, 5, 6] : List Int).take (5 + r3)).length = 5 + r3 := by rw [List.length_take]; simp; omega
              rw [HO.out, e3]
              refine ⟨_, hb8.set1 _, hr8.other ⟨f, 1, none⟩ (by show f ≠ w.heap.size; omega) _, ?_, by rwa [show B + 2 + 1 = B + 3 by omega] at hsC, hgC, fun A m c e => by injection e with e; injection e with e; subst e; show w7.heap.size ≠ _; omega⟩
              show Rd _ 1 _ (([0, 1, 2, 3, 4, 5, 6] : List Int).take (5 + r3)).length _
              rw [e4]
              have e5 : ((([0, 1, 2, 3, 4, 5, 6] : List Int).take (5 + r3)).map (Value.int .i64)) = ([.int .i64 0, .int .i64 1, .int .i64 2, .int .i64 3, .int .i64 4, .int .i64 5, .int .i64 6] : List Value).take (5 + r3) := by rw [List.map_take]; rfl
              rw [show ((k, (([0, 1, 2, 3, 4, 5, 6] : List Int).take (5 + r3))), B + 3).1.2.map (Value.int .i64) = _ from e5]
              exact hRD
          · have hfb : (nx xs B 30 == 0) = false := beq_eq_false_iff_ne.2 hfl
            have HO : Hid (afTail xs B nets k ns = ((k, ns), B + 1)) := by show _ = _; rw [afTail, if_neg hfl]
            clear hfl
            go_wp2_with fail
            go_meet
            rw [HO.out]
            exact ⟨_, hb6, hr6, by rw [HNL.out]; exact HRN6.out, hs6, hgw6, fun A m c e => by injection e with e; injection e with e; subst e; show g1 ≠ _; omega⟩
        case rest =>
          generalize afTail xs B nets k ns = out at *
          obtain ⟨nv, hb7, hr7, hrd7, hs7, hg7, hne7⟩ := hcut
          have HNE7 := Lib.hid hne7
          clear hne7
          have HRD7 := Lib.hid hrd7
          have HS7 := Lib.hid hs7
          have HG7 := Lib.hid hg7
          obtain ⟨A7, c7, rfl, _, _, _, _⟩ := hrd7
          have d0 := hb7.cell0
          have d1 := hb7.cell1
          have r0 := hr7.cell0
          have r1 := hr7.cell1
          have rf := hr7.frozen
          have hr8 := (hr7.set0 (.int .i64 out.1.1)).set1 (.slice A7 out.1.2.length c7)
          have t0 := hr8.cell0
          have t1 := hr8.cell1
          have HEND : Hid (Rd ((wc.setCell ⟨w.heap.size, 0, none⟩ (.int .i64 out.1.1)).setCell ⟨w.heap.size, 1, none⟩ (.slice A7 out.1.2.length c7)) 1 (.slice A7 out.1.2.length c7) out.1.2.length (out.1.2.map (.int .i64)) ∧ Strm TS ((wc.setCell ⟨w.heap.size, 0, none⟩ (.int .i64 out.1.1)).setCell ⟨w.heap.size, 1, none⟩ (.slice A7 out.1.2.length c7)) g xs out.2 ∧ w.grownBy ((wc.setCell ⟨w.heap.size, 0, none⟩ (.int .i64 out.1.1)).setCell ⟨w.heap.size, 1, none⟩ (.slice A7 out.1.2.length c7)) (some g)) := by
            have g0 : w.grownBy ((wc.setCell ⟨w.heap.size, 0, none⟩ (.int .i64 out.1.1)).setCell ⟨w.heap.size, 1, none⟩ (.slice A7 out.1.2.length c7)) (some g) := gb_setCell (gb_setCell hg7 (.inr (Nat.le_refl _)) _) (.inr (Nat.le_refl _)) _
            have g1' : wc.grownBy ((wc.setCell ⟨w.heap.size, 0, none⟩ (.int .i64 out.1.1)).setCell ⟨w.heap.size, 1, none⟩ (.slice A7 out.1.2.length c7)) (some w.heap.size) := gb_setCell (p := ⟨w.heap.size, 1, none⟩) (gb_setCell (p := ⟨w.heap.size, 0, none⟩) (gb_refl wc (some w.heap.size)) (.inl rfl) _) (.inl rfl) _
            exact ⟨HRD7.out.grown g1' (fun A' m' c' b' e1 e2 => by injection e2 with e2; rw [← e2]; exact HNE7.out A' m' c' e1), (hs7.far (p := ⟨w.heap.size, 0, none⟩) hgl _).far (p := ⟨w.heap.size, 1, none⟩) hgl _, g0⟩
          clear hb7 hs7 hg7
          go_wp2_with fail
          refine bodyPost_ret (v := .agg #[.int .i64 out.1.1, .slice A7 out.1.2.length c7]) (by simp [results, Tryz.results54, go_sem, t0, t1]) rfl ?_
          rw [HAF.out]
          exact ⟨_, rfl, HEND.out⟩
end Go.Proofs.YtedpnjbbcfiheaaGreatDoor

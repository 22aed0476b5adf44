import Derived.Test.YtedpnjbbcfiheaaGreatDoorFLB25
import Derived.Test.YtedpnjbbcfiheaaGreatDoorFLB06
set_option linter.unusedSimpArgs false
set_option linter.unusedSectionVars false
set_option linter.unusedVariables false
/- Walk of the generator FaultList. -/
set_option linter.unusedVariables false
namespace Go.Proofs.YtedpnjbbcfiheaaGreatDoor
open Go.RowKit Go.Sc
theorem info_fault : (Tryz.prog.info? 60).map (fun i => (i.zero, i.size, i.bytes)) = some (some (.agg #[.int .i64 0, .slice none 0 0]), 2, 32) := by kernel_rfl
def cellsF : List (Int × List Int) → List Value → List Value
  | f :: fs, u :: us => .int .i64 f.1 :: u :: cellsF fs us
  | _, _ => []
theorem cellsF_len : ∀ (fs : List (Int × List Int)) (us : List Value), us.length = fs.length → (cellsF fs us).length = fs.length * 2
  | [], _, _ => by simp [cellsF]
  | f :: fs, [], h => by simp at h
  | f :: fs, u :: us, h => by simp only [cellsF, List.length_cons]; rw [cellsF_len fs us (by simpa using h)]; omega
theorem cellsF_snoc : ∀ (fs : List (Int × List Int)) (us : List Value) (f : Int × List Int) (u : Value), us.length = fs.length → cellsF (fs ++ [f]) (us ++ [u]) = cellsF fs us ++ [.int .i64 f.1, u]
  | [], [], f, u, _ => rfl
  | [], _ :: _, f, u, h => by simp at h
  | f :: fs, [], _, _, h => by simp at h
  | g :: fs, v :: us, f, u, h => by
    show Value.int .i64 g.1 :: v :: cellsF (fs ++ [f]) (us ++ [u]) = _
    rw [cellsF_snoc fs us f u (by simpa using h)]; rfl
theorem cellsF_at : ∀ (fs : List (Int × List Int)) (us : List Value) (j : Nat) (f : Int × List Int) (u : Value), fs[j]? = some f → us[j]? = some u → (cellsF fs us)[j * 2]? = some (.int .i64 f.1) ∧ (cellsF fs us)[j * 2 + 1]? = some u
  | [], _, j, f, u, h, _ => by simp at h
  | _ :: _, [], j, f, u, _, h => by simp at h
  | g :: fs, v :: us, 0, f, u, h1, h2 => by simp at h1 h2; subst h1; subst h2; exact ⟨rfl, rfl⟩
  | g :: fs, v :: us, j + 1, f, u, h1, h2 => by
    have := cellsF_at fs us j f u (by simpa using h1) (by simpa using h2)
    rw [show (j + 1) * 2 = j * 2 + 1 + 1 by omega]
    simpa [cellsF] using this
/-- a row of the call's own of faults, the nets of each in a row of the call's own -/
def OwnF (w : World) (base : Nat) (v : Value) (fs : List (Int × List Int)) : Prop :=
  ∃ us : List Value, us.length = fs.length ∧ w.ownsRow base 60 2 v fs.length (cellsF fs us) ∧ ∀ (j : Nat) (f : Int × List Int) (u : Value), fs[j]? = some f → us[j]? = some u → w.ownsRow base 3 1 u f.2.length (f.2.map (.int .i64)) ∧ ∀ g, u.ownBlock = some g → v.ownBlock ≠ some g
theorem OwnF.nil (w : World) (base : Nat) : OwnF w base (.slice none 0 0) [] := ⟨[], rfl, World.ownsRow_nil _ _ _ _, fun j f u h => by simp at h⟩
theorem OwnF.rdf {w : World} {base : Nat} {v : Value} {fs : List (Int × List Int)} (h : OwnF w base v fs) : RdF w v fs := by
  obtain ⟨us, hul, hown, hels⟩ := h
  obtain ⟨A, c, rfl, h1, h2, h3, h4⟩ := Rd.of_own hown
  refine ⟨A, c, rfl, h1, h2, fun hn => ?_⟩
  obtain ⟨b, off, rfl, hc⟩ := h4 hn
  refine ⟨b, off, rfl, fun j f hj => ?_⟩
  have hjl : j < fs.length := (List.getElem?_eq_some_iff.1 hj).1
  obtain ⟨u, hu⟩ : ∃ u, us[j]? = some u := ⟨us[j]'(by omega), List.getElem?_eq_getElem _⟩
  obtain ⟨e1, e2⟩ := cellsF_at fs us j f u hj hu
  exact ⟨u, hc _ _ e1, by rw [Nat.add_assoc]; exact hc _ _ e2, Rd.of_own (hels j f u hj hu).1⟩
theorem OwnF.grown {w w1 : World} {base : Nat} {v : Value} {fs : List (Int × List Int)} (h : OwnF w base v fs) {row : Option Nat} (hg : w.grownBy w1 row) (hr : ∀ k, row = some k → k < base ∨ w.heap.size ≤ k) : OwnF w1 base v fs := by
  obtain ⟨us, hul, hown, hels⟩ := h
  refine ⟨us, hul, own_grown hown hg fun k hk e => ?_, fun j f u h1 h2 => ⟨own_grown (hels j f u h1 h2).1 hg fun k hk e => ?_, (hels j f u h1 h2).2⟩⟩
  · have := own_lt hown e; rcases hr k hk with h | h <;> omega
  · have := own_lt (hels j f u h1 h2).1 e; rcases hr k hk with h | h <;> omega
/-- one more fault -/
theorem ownF_snoc {w3 w8 : World} {base : Nat} {v v1 u : Value} {fs : List (Int × List Int)} {f : Int × List Int} {us : List Value} (hul : us.length = fs.length)
    (hown : w3.ownsRow base 60 2 v fs.length (cellsF fs us)) (hels : ∀ (j : Nat) (f : Int × List Int) (u : Value), fs[j]? = some f → us[j]? = some u → w3.ownsRow base 3 1 u f.2.length (f.2.map (.int .i64)) ∧ ∀ g, u.ownBlock = some g → v.ownBlock ≠ some g)
    (hu : w3.ownsRow base 3 1 u f.2.length (f.2.map (.int .i64))) (hub : ∀ g, u.ownBlock = some g → v.ownBlock ≠ some g)
    (hg : w3.grownBy w8 v.ownBlock) (hat : v1.ownBlock = v.ownBlock ∨ ∃ b, v1.ownBlock = some b ∧ w3.heap.size ≤ b)
    (hown1 : w8.ownsRow base 60 2 v1 (fs.length + 1) (cellsF fs us ++ [.int .i64 f.1, u])) : OwnF w8 base v1 (fs ++ [f]) := by
  have key : ∀ (u' : Value) (l : List Int), w3.ownsRow base 3 1 u' l.length (l.map (.int .i64)) → (∀ g, u'.ownBlock = some g → v.ownBlock ≠ some g) → w8.ownsRow base 3 1 u' l.length (l.map (.int .i64)) ∧ ∀ g, u'.ownBlock = some g → v1.ownBlock ≠ some g := by
    intro u' l ho hne
    refine ⟨own_grown ho hg fun k hk e => hne k e hk, fun g hgu e => ?_⟩
    rcases hat with hat | ⟨b, hat, hb⟩
    · exact hne g hgu (by rw [← hat]; exact e)
    · rw [hat] at e
      injection e with e
      have := (own_lt ho hgu).2
      omega
  refine ⟨us ++ [u], by simp [hul], by rw [cellsF_snoc fs us f u hul, List.length_append]; exact hown1, fun j f' u' h1 h2 => ?_⟩
  rcases Nat.lt_or_ge j fs.length with hj | hj
  · rw [List.getElem?_append_left hj] at h1
    rw [List.getElem?_append_left (by omega)] at h2
    exact key u' f'.2 (hels j f' u' h1 h2).1 (hels j f' u' h1 h2).2
  · have hj2 : j = fs.length := by
      have := (List.getElem?_eq_some_iff.1 h1).1
      simp at this; omega
    subst hj2
    rw [List.getElem?_append_right (Nat.le_refl _), Nat.sub_self] at h1
    rw [List.getElem?_append_right (by omega), hul, Nat.sub_self] at h2
    simp at h1 h2
    subst h1; subst h2
    exact key u f.2 hu hub
/-- the faults that the stream deals -/
def flL (xs : List Int) (nets : Int) : Nat → Int → List (Int × List Int) × Int
  | 0, a => ([], a)
  | m + 1, a => ((flL xs nets m a).1 ++ [(afault xs (flL xs nets m a).2 nets).1], (afault xs (flL xs nets m a).2 nets).2)
def flist (xs : List Int) (a nets : Int) : List (Int × List Int) × Int := flL xs nets (nx xs a 7).toNat (a + 1)
theorem flL_len (xs : List Int) (nets a : Int) : ∀ m, (flL xs nets m a).1.length = m
  | 0 => rfl
  | m + 1 => by rw [flL, List.length_append, flL_len xs nets a m]; rfl
theorem afault_bd (xs : List Int) (a nets : Int) (h0 : 0 ≤ nets) (h1 : nets ≤ 100) : a ≤ (afault xs a nets).2 ∧ (afault xs a nets).2 ≤ a + 110 := by
  obtain ⟨m1, m2, _⟩ := afM_bd nets h0 h1
  have hb : a + afM nets ≤ afB (a + afM nets) (afK xs a) ∧ afB (a + afM nets) (afK xs a) ≤ a + afM nets + 1 := by unfold afB; split <;> omega
  unfold afault afTail
  split
  · split
    · show a ≤ afB _ _ + 4 ∧ afB _ _ + 4 ≤ a + 110; omega
    · split
      · show a ≤ afB _ _ + 3 ∧ afB _ _ + 3 ≤ a + 110; omega
      · split
        · show a ≤ afB _ _ + 2 ∧ afB _ _ + 2 ≤ a + 110; omega
        · show a ≤ afB _ _ + 3 ∧ afB _ _ + 3 ≤ a + 110; omega
  · show a ≤ afB _ _ + 1 ∧ afB _ _ + 1 ≤ a + 110; omega
theorem flL_bd (xs : List Int) (nets a : Int) (h0 : 0 ≤ nets) (h1 : nets ≤ 100) : ∀ m : Nat, a ≤ (flL xs nets m a).2 ∧ (flL xs nets m a).2 ≤ a + 110 * m
  | 0 => by show a ≤ a ∧ a ≤ a + 110 * (0 : Nat); omega
  | m + 1 => by
    have h2 := flL_bd xs nets a h0 h1 m
    have h3 := afault_bd xs (flL xs nets m a).2 nets h0 h1
    show a ≤ (afault xs (flL xs nets m a).2 nets).2 ∧ (afault xs (flL xs nets m a).2 nets).2 ≤ a + 110 * ((m + 1 : Nat) : Int)
    omega
theorem afault_len (xs : List Int) (a nets : Int) (h0 : 0 ≤ nets) (h1 : nets ≤ 100) : (afault xs a nets).1.2.length ≤ 1000 := by
  obtain ⟨m1, m2, _⟩ := afM_bd nets h0 h1
  have hns : (afNs xs a nets).length ≤ 100 := by
    unfold afNs
    rw [afSort_len, List.length_take]
    have := afMany_bd xs (a + afM nets) (afK xs a) (afM nets) m1
    omega
  unfold afault afTail
  split
  · split
    · show (afNs xs a nets).length ≤ 1000; omega
    · split
      · show (afNs xs a nets ++ [_]).length ≤ 1000; rw [List.length_append]; simp; omega
      · split
        · show ([] : List Int).length ≤ 1000; simp
        · show (([0, 1, 2, 3, 4, 5, 6] : List Int).take _).length ≤ 1000; rw [List.length_take]; simp; omega
  · show (afNs xs a nets).length ≤ 1000; omega
set_option maxRecDepth 100000 in
set_option maxHeartbeats 1000000 in
theorem FaultList_any (g : Nat) (xs : List Int) (a nets : Int) (w : World) (hs : Strm TS w g xs a) (ha : a + 2000 < 1000000000) (h0 : 0 ≤ nets) (h1 : nets ≤ 100) :
    Calls Tryz.prog 9 #[.pointer (some ⟨g, 0, none⟩), .int .i64 nets] w fun e w' => ∃ v, e = .returned v ∧ OwnF w' w.heap.size v (flist xs a nets).1 ∧ Strm TS w' g xs (flist xs a nets).2 ∧ w.grownBy w' (some g) := by
  have hgl := hs.lt
  have haa := hs.lo
  have n0 := nx_lo xs a 7
  have n1 := nx_lt xs a 7 (by omega)
  have HFL : Hid (flist xs a nets = flL xs nets (nx xs a 7).toNat (a + 1)) := rfl
  obtain ⟨cnt, hcnt⟩ := Int.eq_ofNat_of_zero_le n0
  have HCNT : Hid (nx xs a 7 = (cnt : Int)) := hcnt
  have hc7 : cnt < 7 := by omega
  clear hcnt n0 n1
  go_enter Tryz.func9, Tryz.ntmps9
  go_wp2_with fail
  refine (Range_any g xs a 0 6 _ hs (by omega) (by omega) (by omega) (by omega) (by omega)).mono ?_
  rintro e w1 ⟨rfl, hs1, hg1⟩
  rw [show (0 : Int) + nx xs a (6 - 0 + 1) = (cnt : Int) by rw [show (6 : Int) - 0 + 1 = 7 from rfl, HCNT.out]; omega]
  go_wp2_with fail
  go_loopw [5, 9] (fun v i wr => ∃ k : Nat, k ≤ cnt ∧ i = .int .i64 k ∧ Hid (OwnF wr w.heap.size v (flL xs nets k (a + 1)).1) ∧ Strm TS wr g xs (flL xs nets k (a + 1)).2 ∧ w.grownBy wr (some g)) (fun _ i _ => cnt - (intOf i).toNat)
  case atStart => exact ⟨0, by omega, rfl, OwnF.nil _ _, hs1, hg1⟩
  case round =>
    obtain ⟨k, hk, rfl, HOF, hst, hgb⟩ := hrel
    by_cases hlt : k < cnt
    · have HOL := Lib.hid (flL_len xs nets (a + 1) k)
      have hbd := flL_bd xs nets (a + 1) h0 h1 k
      have HN1 : Hid ((flL xs nets (k + 1) (a + 1)).1 = (flL xs nets k (a + 1)).1 ++ [(afault xs (flL xs nets k (a + 1)).2 nets).1]) := rfl
      have HN2 : Hid ((flL xs nets (k + 1) (a + 1)).2 = (afault xs (flL xs nets k (a + 1)).2 nets).2) := rfl
      generalize (flL xs nets k (a + 1)).1 = fs at *
      generalize (flL xs nets k (a + 1)).2 = b at *
      have hlen := afault_len xs b nets h0 h1
      have hsz := hgb.size
      go_wp2_with fail
      refine (AFault_any g xs b nets _ hst (by omega) h0 h1).mono ?_
      rintro e w2 ⟨nv, rfl, hrd2, hst2, hg2⟩
      generalize afault xs b nets = out at *
      have HRD2 := Lib.hid (hrd2.below ((Below.refl _ _).alloc (Nat.le_refl _) (.cells #[.int .i64 out.1.1, nv] 60)))
      have HB2 := Box2.new 60 w2 (.int .i64 out.1.1) nv
      have hst3 := hst2.alloc (.cells #[.int .i64 out.1.1, nv] 60)
      have hgb3 := gb_alloc (World.grownBy.trans' hgb hg2) (.cells #[.int .i64 out.1.1, nv] 60)
      have hw2 : w.heap.size ≤ w2.heap.size := (World.grownBy.trans' hgb hg2).size
      have hl2 := hst2.lt
      obtain ⟨A3, c3, rfl, _, _, _, _⟩ := hrd2
      have b1 := HB2.cell1
      clear hst2
      go_wp2_with fail
      refine (Clone_rd _ _ _ _ HRD2.out (by omega)).mono ?_
      rintro e w4 ⟨v4, rfl, hown4, hb4⟩
      rw [World.size_alloc] at hown4 hb4
      have hb5 : Box2 60 w4 w2.heap.size (.int .i64 out.1.1) (.slice A3 out.1.2.length c3) := (hb4.block w2.heap.size (by omega)).trans HB2
      have hst4 : Strm TS w4 g xs out.2 := hst3.below (by rw [World.size_alloc]; exact hb4)
      have hgb4 : w.grownBy w4 (some g) := gb_below hgb3 (by rw [World.size_alloc]; exact hb4)
      obtain ⟨A4, c4, rfl, _, _, _, _⟩ := Rd.of_own hown4
      have b40 := hb5.cell0
      have b41 := hb5.cell1
      have bf4 := hb5.frozen
      have hb6 := hb5.set1 (.slice A4 out.1.2.length c4)
      have b60 := hb6.cell0
      have b61 := hb6.cell1
      have hg5 := gb_setCell (p := ⟨w2.heap.size, 1, none⟩) (gb_refl w4 (some w2.heap.size)) (.inl rfl) (.slice A4 out.1.2.length c4)
      have HOW5 := Lib.hid (own_mono (own_grown hown4 hg5 (fun k hk e => by injection hk with hk; have := own_lt hown4 e; omega)) (show w.heap.size ≤ w2.heap.size + 1 by omega))
      have hst5 := hst4.far (p := ⟨w2.heap.size, 1, none⟩) (by show g < w2.heap.size; omega) (.slice A4 out.1.2.length c4)
      have hgb5 := gb_setCell (p := ⟨w2.heap.size, 1, none⟩) hgb4 (.inr (by show w.heap.size ≤ w2.heap.size; omega)) (.slice A4 out.1.2.length c4)
      have hgr5 := gb_setCell (p := ⟨w2.heap.size, 1, none⟩) (gb_below (gb_alloc hg2 (.cells #[.int .i64 out.1.1, .slice A3 out.1.2.length c3] 60)) (by rw [World.size_alloc]; exact hb4)) (.inr hg2.size) (.slice A4 out.1.2.length c4)
      obtain ⟨us, hul, hown, hels⟩ := HOF.out.grown hgr5 (fun k hk => by injection hk with hk; omega)
      have HELS := Lib.hid hels
      have HUL := Lib.hid hul
      have HNB : Hid (∀ gg, (Value.slice A4 out.1.2.length c4).ownBlock = some gg → Value.ownBlock _ ≠ some gg) := fun gg e e2 => by
        obtain ⟨us', _, hown', _⟩ := HOF.out
        have h5 := (own_lt hown4 e).1
        have h6 := (own_lt hown' e2).2
        have h7 := hg2.size
        omega
      have hsz5 := hgb5.size
      have HSZ : Hid ((w4.setCell ⟨w2.heap.size, 1, none⟩ (.slice A4 out.1.2.length c4)).heap.size = w4.heap.size) := by show _ = _; simp [World.setCell]
      have hk7 : fs.length ≤ 7 := by rw [HOL.out]; omega
      clear hels hul hgr5 hown4 hb4 hgb4 hst4 hst3 hgb3 hg2 hg5 HRD2 HB2 hb5 b1
      go_wp2_with (at_builtin; (refine app w.heap.size rfl _ _ 28 60 (.agg #[.int .i64 0, .slice none 0 0]) 2 32 rfl Tryz.underlying28 info_fault rfl (by decide) (by decide) _ _ _ hown _ 1 rfl (by rw [HSZ.out]; rfl) rfl (by simp [Value.oneCell']) hsz5 (by omega) ?_); intro v1 w8 hown1 hg1 hat)
      go_roundw
      case rel => exact ⟨k + 1, by omega, by go_num, by rw [HN1.out]; exact ownF_snoc HUL.out hown HELS.out HOW5.out HNB.out hg1 hat hown1, by rw [HN2.out]; exact hst5.grown hg1 (fun j hj => by have := (own_lt hown hj).1; omega), gb_own hgb5 hg1 (fun j hj => (own_lt hown hj).1)⟩
      case measure => simp [intOf]; omega
    · obtain rfl : k = cnt := by omega
      have HE : Hid (flist xs a nets = flL xs nets k (a + 1)) := by show _ = _; rw [HFL.out, HCNT.out]; rfl
      go_wp2_with fail
      go_ret
      rw [HE.out]
      exact ⟨_, rfl, HOF.out, hst, hgb⟩
end Go.Proofs.YtedpnjbbcfiheaaGreatDoor

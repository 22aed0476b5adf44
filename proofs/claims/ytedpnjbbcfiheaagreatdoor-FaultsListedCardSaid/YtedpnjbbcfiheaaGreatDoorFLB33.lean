import Derived.Test.YtedpnjbbcfiheaaGreatDoorFLB32
set_option linter.unusedSimpArgs false
set_option linter.unusedSectionVars false
set_option linter.unusedVariables false
/- Walks of All, AllOf. -/
set_option linter.unusedVariables false
namespace Go.Proofs.YtedpnjbbcfiheaaGreatDoor
open Go.RowKit Go.Sc
set_option maxRecDepth 100000 in
set_option maxHeartbeats 2000000 in
theorem AllOf_any (nets : Nat) (v : Value) (n : Nat) (ks : List Int) (w : World) (hr : Rd w 1 v n (ks.map (.int .i64))) (hn6 : n ≤ 6) (hn : nets ≤ 100) :
    Calls Tryz.prog 31 #[.int .i64 nets, v] w fun e w' => ∃ v', e = .returned v' ∧ OwnF w' w.heap.size v' (allF ks nets) ∧ Below w.heap.size w w' := by
  have hl : ks.length = n := by have := hr.len; simpa using this
  have HL := Lib.hid hl
  obtain ⟨A, c, rfl, h1, h2, h3, h4⟩ := hr
  have H4 := Lib.hid h4
  clear h3 h4 hl
  go_enter Tryz.func31, Tryz.ntmps31
  go_wp2_with fail
  go_loopw [5, 12] (fun v i wr => ∃ j : Nat, j ≤ n ∧ i = .int .i64 j ∧ Hid (OwnF wr w.heap.size v (allF (ks.take j) nets)) ∧ Below w.heap.size w wr) (fun _ i _ => n - (intOf i).toNat)
  case atStart => exact ⟨0, by omega, rfl, by show OwnF _ _ _ _; simpa [allF] using OwnF.nil w w.heap.size, Below.refl _ _⟩
  case round =>
    obtain ⟨j, hj, rfl, HO, hbel⟩ := hrel
    by_cases hlt : j < n
    · obtain ⟨b, off, rfl, hc⟩ := H4.out (by omega)
      have hjl : j < ks.length := by rw [HL.out]; exact hlt
      have c1 := cell_below hbel _ _ (hc j _ (getD_map_int .i64 ks j hjl))
      have HT : Hid (allF (ks.take (j + 1)) nets = allF (ks.take j) nets ++ allK (ks[j]?.getD 0) nets nets) := allF_take ks nets j _ (by rw [List.getElem?_eq_getElem hjl]; rfl)
      have hlen := allF_len ks nets j hn
      clear hc hjl
      generalize ks[j]?.getD 0 = kd at *
      generalize allF (ks.take j) nets = base at *
      obtain ⟨w5, hw5⟩ : ∃ w5, w5 = wr := ⟨_, rfl⟩
      rw [← hw5] at HO hbel c1 ⊢
      clear hw5
      go_wp2_with fail
      go_loopw [5, 17] (fun v i wr => ∃ a : Nat, a ≤ nets ∧ i = .int .i64 a ∧ Hid (OwnF wr w.heap.size v (base ++ allK kd nets a)) ∧ Below w.heap.size w wr) (fun _ i _ => nets - (intOf i).toNat)
      case atStart => exact ⟨0, by omega, rfl, by show OwnF _ _ _ _; simpa [allK] using HO.out, hbel⟩
      case round =>
        obtain ⟨a, ha, rfl, HO, hbel⟩ := hrel
        by_cases hlta : a < nets
        · have hlen2 := allK_len kd nets a hn
          have HT2 : Hid (allK kd nets (a + 1) = allK kd nets a ++ oneK kd nets a) := allK_succ kd nets a
          have HK : Hid (oneK kd nets a = if outB kd 3 5 = true then [(kd, [(a : Int)])] else oneA kd nets a nets) := rfl
          have hsz := hbel.size
          cases hsh : outB kd 3 5
          · have HK2 : Hid (oneK kd nets a = oneA kd nets a nets) := by show _ = _; rw [HK.out, hsh]; rfl
            obtain ⟨w6, hw6⟩ : ∃ w6, w6 = wr := ⟨_, rfl⟩
            rw [← hw6] at HO hbel hsz ⊢
            clear hw6
            go_wp2_with (go_at_call 80; refine (short_any _ _).mono ?_; rintro e w' ⟨rfl, rfl⟩; rw [hsh])
            go_loopw [5, 31] (fun v i wr => ∃ q : Nat, q ≤ nets ∧ i = .int .i64 q ∧ Hid (OwnF wr w.heap.size v (base ++ allK kd nets a ++ oneA kd nets a q)) ∧ Below w.heap.size w wr) (fun _ i _ => nets - (intOf i).toNat)
            case atStart => exact ⟨0, by omega, rfl, by show OwnF _ _ _ _; simpa [oneA] using HO.out, hbel⟩
            case round =>
              obtain ⟨q, hq, rfl, HO, hbel⟩ := hrel
              by_cases hltq : q < nets
              · have hlen3 := oneA_len kd nets a q
                have HT3 := Lib.hid (oneA_succ kd nets a q)
                have HCB : Hid (condB kd a q = (decide (a < q) || (decide (q < a) && decide (kd = 5)))) := rfl
                have hsz := hbel.size
                have hadd : ∀ (vv : Value) (W : World), True := fun _ _ => trivial
                obtain ⟨us, hul, hown, hels⟩ := HO.out.alloc (.cells #[.int .i64 (a : Int), .int .i64 (q : Int)] 3)
                have hlL : (base ++ allK kd nets a ++ oneA kd nets a q).length ≤ 80000 := by simp only [List.length_append]; omega
                have hlit := Lib.hid (own_lit (w := wr) (base := w.heap.size) [.int .i64 (a : Int), .int .i64 (q : Int)] 3 2 rfl (by decide) hsz)
                have hnb : ∀ gg, (Value.slice (some ⟨wr.heap.size, 0, none⟩) 2 2).ownBlock = some gg → Value.ownBlock _ ≠ some gg := fun gg e e2 => by
                  obtain ⟨us', _, hown', _⟩ := HO.out
                  have h6 := (own_lt hown' e2).2
                  have h7 : wr.heap.size = gg := by injection e
                  omega
                have HNB := Lib.hid hnb
                have HUL := Lib.hid hul
                have HELS := Lib.hid hels
                clear hnb hul hels hadd
                generalize hLL : base ++ allK kd nets a ++ oneA kd nets a q = L at *
                have HLL := Lib.hid hLL
                clear hLL
                have hbA : Below w.heap.size w (wr.alloc (.cells #[.int .i64 (a : Int), .int .i64 (q : Int)] 3)) := hbel.alloc hsz _
                have hszA := hbA.size
                have HYES : Hid (∀ v1 w8, w8.ownsRow w.heap.size 60 2 v1 (L.length + 1) (cellsF L us ++ [.int .i64 kd, .slice (some ⟨wr.heap.size, 0, none⟩) 2 2]) → (wr.alloc (.cells #[.int .i64 (a : Int), .int .i64 (q : Int)] 3)).grownBy w8 (Value.ownBlock _) → (v1.ownBlock = Value.ownBlock _ ∨ ∃ b, v1.ownBlock = some b ∧ (wr.alloc (.cells #[.int .i64 (a : Int), .int .i64 (q : Int)] 3)).heap.size ≤ b) → condB kd a q = true → Hid (OwnF w8 w.heap.size v1 (base ++ allK kd nets a ++ oneA kd nets a (q + 1))) ∧ Below w.heap.size w w8) := fun v1 w8 ho hg hat hcb => by
                  refine ⟨?_, hbA.grown hg hszA (fun j hj => (own_lt hown hj).1)⟩
                  show OwnF _ _ _ _
                  rw [HT3.out, if_pos hcb, ← List.append_assoc, HLL.out]
                  exact ownF_snoc HUL.out hown HELS.out hlit.out HNB.out hg hat ho
                have HNO : Hid (condB kd a q = false → oneA kd nets a (q + 1) = oneA kd nets a q) := fun hcb => by rw [HT3.out, hcb]; simp
                by_cases haq : a < q
                · have d1 : decide (a < q) = true := by simpa using haq
                  have HC : Hid (condB kd a q = true) := by show _ = _; rw [HCB.out, d1]; rfl
                  go_wp2_with (at_builtin; refine app w.heap.size rfl _ _ 28 60 (.agg #[.int .i64 0, .slice none 0 0]) 2 32 rfl Tryz.underlying28 info_fault rfl (by decide) (by decide) _ _ _ hown _ 1 rfl (by rw [World.size_alloc]; rfl) rfl (by simp [Value.oneCell']) hszA (by omega) ?_; intro v1 w8 hown1 hg1 hat)
                  go_roundw
                  case rel => exact ⟨q + 1, by omega, by go_num, (HYES.out _ _ hown1 hg1 hat HC.out).1, (HYES.out _ _ hown1 hg1 hat HC.out).2⟩
                  case measure => simp [intOf]; omega
                · have d1 : decide (a < q) = false := by simpa using haq
                  by_cases hqa : q < a
                  · have d2 : decide (q < a) = true := by simpa using hqa
                    by_cases h5 : kd = 5
                    · have d3 : (kd == 5) = true := beq_iff_eq.2 h5
                      have HC : Hid (condB kd a q = true) := by show _ = _; rw [HCB.out, d1, d2, decide_eq_true h5]; rfl
                      clear h5
                      go_wp2_with (at_builtin; refine app w.heap.size rfl _ _ 28 60 (.agg #[.int .i64 0, .slice none 0 0]) 2 32 rfl Tryz.underlying28 info_fault rfl (by decide) (by decide) _ _ _ hown _ 1 rfl (by rw [World.size_alloc]; rfl) rfl (by simp [Value.oneCell']) hszA (by omega) ?_; intro v1 w8 hown1 hg1 hat)
                      go_roundw
                      case rel => exact ⟨q + 1, by omega, by go_num, (HYES.out _ _ hown1 hg1 hat HC.out).1, (HYES.out _ _ hown1 hg1 hat HC.out).2⟩
                      case measure => simp [intOf]; omega
                    · have d3 : (kd == 5) = false := beq_eq_false_iff_ne.2 h5
                      have HC : Hid (condB kd a q = false) := by show _ = _; rw [HCB.out, d1, d2, decide_eq_false h5]; rfl
                      clear h5
                      go_wp2_with fail
                      go_roundw
                      case rel => exact ⟨q + 1, by omega, by go_num, by rw [HNO.out HC.out, HLL.out]; exact HO, hbel⟩
                      case measure => simp [intOf]; omega
                  · have d2 : decide (q < a) = false := by simpa using hqa
                    have HC : Hid (condB kd a q = false) := by show _ = _; rw [HCB.out, d1, d2]; rfl
                    go_wp2_with fail
                    go_roundw
                    case rel => exact ⟨q + 1, by omega, by go_num, by rw [HNO.out HC.out, HLL.out]; exact HO, hbel⟩
                    case measure => simp [intOf]; omega
              · obtain rfl : q = nets := by omega
                have HE : Hid (base ++ allK kd q a ++ oneA kd q a q = base ++ allK kd q (a + 1)) := by show _ = _; rw [HT2.out, HK2.out, List.append_assoc]
                rw [HE.out] at HO
                go_wp2_with fail
                go_roundw
                case rel => exact ⟨a + 1, by omega, by go_num, HO, hbel⟩
                case measure => simp [intOf]; omega
          · have HK2 : Hid (oneK kd nets a = [(kd, [(a : Int)])]) := by show _ = _; rw [HK.out, hsh]; rfl
            obtain ⟨us, hul, hown, hels⟩ := HO.out.alloc (.cells #[.int .i64 (a : Int)] 3)
            have hlL : (base ++ allK kd nets a).length ≤ 80000 := by simp only [List.length_append]; omega
            have hlit := Lib.hid (own_lit (w := wr) (base := w.heap.size) [.int .i64 (a : Int)] 3 1 rfl (by decide) hsz)
            have hnb : ∀ gg, (Value.slice (some ⟨wr.heap.size, 0, none⟩) 1 1).ownBlock = some gg → Value.ownBlock _ ≠ some gg := fun gg e e2 => by
              obtain ⟨us', _, hown', _⟩ := HO.out
              have h6 := (own_lt hown' e2).2
              have h7 : wr.heap.size = gg := by injection e
              omega
            have HNB := Lib.hid hnb
            have HUL := Lib.hid hul
            have HELS := Lib.hid hels
            clear hnb hul hels
            have HX : Hid (base ++ allK kd nets (a + 1) = (base ++ allK kd nets a) ++ [(kd, [(a : Int)])]) := by show _ = _; rw [HT2.out, HK2.out, List.append_assoc]
            generalize hLL : base ++ allK kd nets a = L at *
            have HLL := Lib.hid hLL
            clear hLL
            have hbA : Below w.heap.size w (wr.alloc (.cells #[.int .i64 (a : Int)] 3)) := hbel.alloc hsz _
            have hszA := hbA.size
            go_wp2_with (first
              | (go_at_call 80; refine (short_any _ _).mono ?_; rintro e w' ⟨rfl, rfl⟩; rw [hsh])
              | (at_builtin; refine app w.heap.size rfl _ _ 28 60 (.agg #[.int .i64 0, .slice none 0 0]) 2 32 rfl Tryz.underlying28 info_fault rfl (by decide) (by decide) _ _ _ hown _ 1 rfl (by rw [World.size_alloc]; rfl) rfl (by simp [Value.oneCell']) hszA (by omega) ?_; intro v1 w8 hown1 hg1 hat))
            go_roundw
            case rel => exact ⟨a + 1, by omega, by go_num, by rw [HX.out]; exact ownF_snoc HUL.out hown HELS.out hlit.out HNB.out hg1 hat hown1, hbA.grown hg1 hszA (fun j hj => (own_lt hown hj).1)⟩
            case measure => simp [intOf]; omega
        · obtain rfl : a = nets := by omega
          rw [← HT.out] at HO
          go_wp2_with fail
          go_roundw
          case rel => exact ⟨j + 1, by omega, by go_num, HO, hbel⟩
          case measure => simp [intOf]; omega
    · obtain rfl : j = n := by omega
      have HTK : Hid (ks.take j = ks) := List.take_of_length_le (by rw [HL.out]; exact Nat.le_refl _)
      rw [HTK.out] at HO
      go_wp2_with fail
      go_ret
      exact ⟨_, rfl, HO.out, hbel⟩
set_option maxRecDepth 100000 in
set_option maxHeartbeats 2000000 in
theorem All_ok (nets : Nat) (v : Value) (n : Nat) (ks : List Int) (w : World) (hr : Rd w 1 v n (ks.map (.int .i64))) (hn6 : n ≤ 6) (hn : nets ≤ 100) (h0 : kfault nets ks = 0) (hsm : (allF ks nets).length ≤ 20000) :
    Calls Tryz.prog 24 #[.int .i64 nets, v] w fun e w' => ∃ v', e = .returned (.tuple #[v', .int .i64 0]) ∧ OwnF w' w.heap.size v' (allF ks nets) ∧ Below w.heap.size w w' := by
  have hl : ks.length = n := by have := hr.len; simpa using this
  have HL := Lib.hid hl
  have HKF := Lib.hid (kindsFault_any nets v n ks w hr)
  rw [h0] at HKF
  clear h0
  obtain ⟨A, c, rfl, h1, h2, h3, h4⟩ := hr
  have H4 := Lib.hid h4
  clear h3 h4 hl
  go_enter Tryz.func24, Tryz.ntmps24
  go_wp2_with fail
  refine HKF.out.mono ?_
  rintro e w' ⟨rfl, rfl⟩
  go_wp2_with fail
  go_loopw [7, 20] (fun v i wr => ∃ j : Nat, j ≤ n ∧ i = .int .i64 j ∧ Hid (OwnF wr w.heap.size v (allF (ks.take j) nets)) ∧ Below w.heap.size w wr) (fun _ i _ => n - (intOf i).toNat)
  case atStart => exact ⟨0, by omega, rfl, by show OwnF _ _ _ _; simpa [allF] using OwnF.nil w w.heap.size, Below.refl _ _⟩
  case round =>
    obtain ⟨j, hj, rfl, HO, hbel⟩ := hrel
    by_cases hlt : j < n
    · obtain ⟨b, off, rfl, hc⟩ := H4.out (by omega)
      have hjl : j < ks.length := by rw [HL.out]; exact hlt
      have c1 := cell_below hbel _ _ (hc j _ (getD_map_int .i64 ks j hjl))
      have HT : Hid (allF (ks.take (j + 1)) nets = allF (ks.take j) nets ++ allK (ks[j]?.getD 0) nets nets) := allF_take ks nets j _ (by rw [List.getElem?_eq_getElem hjl]; rfl)
      have hlen := allF_len ks nets j hn
      clear hc hjl
      generalize ks[j]?.getD 0 = kd at *
      generalize allF (ks.take j) nets = base at *
      obtain ⟨w5, hw5⟩ : ∃ w5, w5 = wr := ⟨_, rfl⟩
      rw [← hw5] at HO hbel c1 ⊢
      clear hw5
      go_wp2_with fail
      go_loopw [7, 25] (fun v i wr => ∃ a : Nat, a ≤ nets ∧ i = .int .i64 a ∧ Hid (OwnF wr w.heap.size v (base ++ allK kd nets a)) ∧ Below w.heap.size w wr) (fun _ i _ => nets - (intOf i).toNat)
      case atStart => exact ⟨0, by omega, rfl, by show OwnF _ _ _ _; simpa [allK] using HO.out, hbel⟩
      case round =>
        obtain ⟨a, ha, rfl, HO, hbel⟩ := hrel
        by_cases hlta : a < nets
        · have hlen2 := allK_len kd nets a hn
          have HT2 : Hid (allK kd nets (a + 1) = allK kd nets a ++ oneK kd nets a) := allK_succ kd nets a
          have HK : Hid (oneK kd nets a = if outB kd 3 5 = true then [(kd, [(a : Int)])] else oneA kd nets a nets) := rfl
          have hsz := hbel.size
          cases hsh : outB kd 3 5
          · have HK2 : Hid (oneK kd nets a = oneA kd nets a nets) := by show _ = _; rw [HK.out, hsh]; rfl
            obtain ⟨w6, hw6⟩ : ∃ w6, w6 = wr := ⟨_, rfl⟩
            rw [← hw6] at HO hbel hsz ⊢
            clear hw6
            go_wp2_with (go_at_call 76; refine (isShort_any _ _).mono ?_; rintro e w' ⟨rfl, rfl⟩; rw [hsh])
            go_loopw [7, 39] (fun v i wr => ∃ q : Nat, q ≤ nets ∧ i = .int .i64 q ∧ Hid (OwnF wr w.heap.size v (base ++ allK kd nets a ++ oneA kd nets a q)) ∧ Below w.heap.size w wr) (fun _ i _ => nets - (intOf i).toNat)
            case atStart => exact ⟨0, by omega, rfl, by show OwnF _ _ _ _; simpa [oneA] using HO.out, hbel⟩
            case round =>
              obtain ⟨q, hq, rfl, HO, hbel⟩ := hrel
              by_cases hltq : q < nets
              · have hlen3 := oneA_len kd nets a q
                have HT3 := Lib.hid (oneA_succ kd nets a q)
                have HCB : Hid (condB kd a q = (decide (a < q) || (decide (q < a) && decide (kd = 5)))) := rfl
                have hsz := hbel.size
                have hadd : ∀ (vv : Value) (W : World), True := fun _ _ => trivial
                obtain ⟨us, hul, hown, hels⟩ := HO.out.alloc (.cells #[.int .i64 (a : Int), .int .i64 (q : Int)] 3)
                have hlL : (base ++ allK kd nets a ++ oneA kd nets a q).length ≤ 80000 := by simp only [List.length_append]; omega
                have hlit := Lib.hid (own_lit (w := wr) (base := w.heap.size) [.int .i64 (a : Int), .int .i64 (q : Int)] 3 2 rfl (by decide) hsz)
                have hnb : ∀ gg, (Value.slice (some ⟨wr.heap.size, 0, none⟩) 2 2).ownBlock = some gg → Value.ownBlock _ ≠ some gg := fun gg e e2 => by
                  obtain ⟨us', _, hown', _⟩ := HO.out
                  have h6 := (own_lt hown' e2).2
                  have h7 : wr.heap.size = gg := by injection e
                  omega
                have HNB := Lib.hid hnb
                have HUL := Lib.hid hul
                have HELS := Lib.hid hels
                clear hnb hul hels hadd
                generalize hLL : base ++ allK kd nets a ++ oneA kd nets a q = L at *
                have HLL := Lib.hid hLL
                clear hLL
                have hbA : Below w.heap.size w (wr.alloc (.cells #[.int .i64 (a : Int), .int .i64 (q : Int)] 3)) := hbel.alloc hsz _
                have hszA := hbA.size
                have HYES : Hid (∀ v1 w8, w8.ownsRow w.heap.size 60 2 v1 (L.length + 1) (cellsF L us ++ [.int .i64 kd, .slice (some ⟨wr.heap.size, 0, none⟩) 2 2]) → (wr.alloc (.cells #[.int .i64 (a : Int), .int .i64 (q : Int)] 3)).grownBy w8 (Value.ownBlock _) → (v1.ownBlock = Value.ownBlock _ ∨ ∃ b, v1.ownBlock = some b ∧ (wr.alloc (.cells #[.int .i64 (a : Int), .int .i64 (q : Int)] 3)).heap.size ≤ b) → condB kd a q = true → Hid (OwnF w8 w.heap.size v1 (base ++ allK kd nets a ++ oneA kd nets a (q + 1))) ∧ Below w.heap.size w w8) := fun v1 w8 ho hg hat hcb => by
                  refine ⟨?_, hbA.grown hg hszA (fun j hj => (own_lt hown hj).1)⟩
                  show OwnF _ _ _ _
                  rw [HT3.out, if_pos hcb, ← List.append_assoc, HLL.out]
                  exact ownF_snoc HUL.out hown HELS.out hlit.out HNB.out hg hat ho
                have HNO : Hid (condB kd a q = false → oneA kd nets a (q + 1) = oneA kd nets a q) := fun hcb => by rw [HT3.out, hcb]; simp
                by_cases haq : a < q
                · have d1 : decide (a < q) = true := by simpa using haq
                  have HC : Hid (condB kd a q = true) := by show _ = _; rw [HCB.out, d1]; rfl
                  go_wp2_with (at_builtin; refine app w.heap.size rfl _ _ 28 60 (.agg #[.int .i64 0, .slice none 0 0]) 2 32 rfl Tryz.underlying28 info_fault rfl (by decide) (by decide) _ _ _ hown _ 1 rfl (by rw [World.size_alloc]; rfl) rfl (by simp [Value.oneCell']) hszA (by omega) ?_; intro v1 w8 hown1 hg1 hat)
                  go_roundw
                  case rel => exact ⟨q + 1, by omega, by go_num, (HYES.out _ _ hown1 hg1 hat HC.out).1, (HYES.out _ _ hown1 hg1 hat HC.out).2⟩
                  case measure => simp [intOf]; omega
                · have d1 : decide (a < q) = false := by simpa using haq
                  by_cases hqa : q < a
                  · have d2 : decide (q < a) = true := by simpa using hqa
                    by_cases h5 : kd = 5
                    · have d3 : (kd == 5) = true := beq_iff_eq.2 h5
                      have HC : Hid (condB kd a q = true) := by show _ = _; rw [HCB.out, d1, d2, decide_eq_true h5]; rfl
                      clear h5
                      go_wp2_with (at_builtin; refine app w.heap.size rfl _ _ 28 60 (.agg #[.int .i64 0, .slice none 0 0]) 2 32 rfl Tryz.underlying28 info_fault rfl (by decide) (by decide) _ _ _ hown _ 1 rfl (by rw [World.size_alloc]; rfl) rfl (by simp [Value.oneCell']) hszA (by omega) ?_; intro v1 w8 hown1 hg1 hat)
                      go_roundw
                      case rel => exact ⟨q + 1, by omega, by go_num, (HYES.out _ _ hown1 hg1 hat HC.out).1, (HYES.out _ _ hown1 hg1 hat HC.out).2⟩
                      case measure => simp [intOf]; omega
                    · have d3 : (kd == 5) = false := beq_eq_false_iff_ne.2 h5
                      have HC : Hid (condB kd a q = false) := by show _ = _; rw [HCB.out, d1, d2, decide_eq_false h5]; rfl
                      clear h5
                      go_wp2_with fail
                      go_roundw
                      case rel => exact ⟨q + 1, by omega, by go_num, by rw [HNO.out HC.out, HLL.out]; exact HO, hbel⟩
                      case measure => simp [intOf]; omega
                  · have d2 : decide (q < a) = false := by simpa using hqa
                    have HC : Hid (condB kd a q = false) := by show _ = _; rw [HCB.out, d1, d2]; rfl
                    go_wp2_with fail
                    go_roundw
                    case rel => exact ⟨q + 1, by omega, by go_num, by rw [HNO.out HC.out, HLL.out]; exact HO, hbel⟩
                    case measure => simp [intOf]; omega
              · obtain rfl : q = nets := by omega
                have HE : Hid (base ++ allK kd q a ++ oneA kd q a q = base ++ allK kd q (a + 1)) := by show _ = _; rw [HT2.out, HK2.out, List.append_assoc]
                rw [HE.out] at HO
                go_wp2_with fail
                go_roundw
                case rel => exact ⟨a + 1, by omega, by go_num, HO, hbel⟩
                case measure => simp [intOf]; omega
          · have HK2 : Hid (oneK kd nets a = [(kd, [(a : Int)])]) := by show _ = _; rw [HK.out, hsh]; rfl
            obtain ⟨us, hul, hown, hels⟩ := HO.out.alloc (.cells #[.int .i64 (a : Int)] 3)
            have hlL : (base ++ allK kd nets a).length ≤ 80000 := by simp only [List.length_append]; omega
            have hlit := Lib.hid (own_lit (w := wr) (base := w.heap.size) [.int .i64 (a : Int)] 3 1 rfl (by decide) hsz)
            have hnb : ∀ gg, (Value.slice (some ⟨wr.heap.size, 0, none⟩) 1 1).ownBlock = some gg → Value.ownBlock _ ≠ some gg := fun gg e e2 => by
              obtain ⟨us', _, hown', _⟩ := HO.out
              have h6 := (own_lt hown' e2).2
              have h7 : wr.heap.size = gg := by injection e
              omega
            have HNB := Lib.hid hnb
            have HUL := Lib.hid hul
            have HELS := Lib.hid hels
            clear hnb hul hels
            have HX : Hid (base ++ allK kd nets (a + 1) = (base ++ allK kd nets a) ++ [(kd, [(a : Int)])]) := by show _ = _; rw [HT2.out, HK2.out, List.append_assoc]
            generalize hLL : base ++ allK kd nets a = L at *
            have HLL := Lib.hid hLL
            clear hLL
            have hbA : Below w.heap.size w (wr.alloc (.cells #[.int .i64 (a : Int)] 3)) := hbel.alloc hsz _
            have hszA := hbA.size
            go_wp2_with (first
              | (go_at_call 76; refine (isShort_any _ _).mono ?_; rintro e w' ⟨rfl, rfl⟩; rw [hsh])
              | (at_builtin; refine app w.heap.size rfl _ _ 28 60 (.agg #[.int .i64 0, .slice none 0 0]) 2 32 rfl Tryz.underlying28 info_fault rfl (by decide) (by decide) _ _ _ hown _ 1 rfl (by rw [World.size_alloc]; rfl) rfl (by simp [Value.oneCell']) hszA (by omega) ?_; intro v1 w8 hown1 hg1 hat))
            go_roundw
            case rel => exact ⟨a + 1, by omega, by go_num, by rw [HX.out]; exact ownF_snoc HUL.out hown HELS.out hlit.out HNB.out hg1 hat hown1, hbA.grown hg1 hszA (fun j hj => (own_lt hown hj).1)⟩
            case measure => simp [intOf]; omega
        · obtain rfl : a = nets := by omega
          rw [← HT.out] at HO
          go_wp2_with fail
          go_roundw
          case rel => exact ⟨j + 1, by omega, by go_num, HO, hbel⟩
          case measure => simp [intOf]; omega
    · obtain rfl : j = n := by omega
      have HTK : Hid (ks.take j = ks) := List.take_of_length_le (by rw [HL.out]; exact Nat.le_refl _)
      rw [HTK.out] at HO
      obtain ⟨us, hul, hown, hels⟩ := HO.out
      obtain ⟨A9, c9, rfl, _, _, _, _⟩ := Rd.of_own hown
      have d9 : decide ((20000 : Int) < ((allF ks nets).length : Int)) = false := by simp; omega
      clear hown hels hul
      generalize hfl : (allF ks nets).length = fl at *
      go_wp2_with fail
      go_ret2
      exact ⟨_, rfl, HO.out, hbel⟩
set_option maxRecDepth 100000 in
set_option maxHeartbeats 2000000 in
theorem All_large (nets : Nat) (v : Value) (n : Nat) (ks : List Int) (w : World) (hr : Rd w 1 v n (ks.map (.int .i64))) (hn6 : n ≤ 6) (hn : nets ≤ 100) (h0 : kfault nets ks = 0) (hsm : 20000 < (allF ks nets).length) :
    Calls Tryz.prog 24 #[.int .i64 nets, v] w fun e w' => e = .returned (.tuple #[.slice none 0 0, .int .i64 2]) ∧ Below w.heap.size w w' := by
  have hl : ks.length = n := by have := hr.len; simpa using this
  have HL := Lib.hid hl
  have HKF := Lib.hid (kindsFault_any nets v n ks w hr)
  rw [h0] at HKF
  clear h0
  obtain ⟨A, c, rfl, h1, h2, h3, h4⟩ := hr
  have H4 := Lib.hid h4
  clear h3 h4 hl
  go_enter Tryz.func24, Tryz.ntmps24
  go_wp2_with fail
  refine HKF.out.mono ?_
  rintro e w' ⟨rfl, rfl⟩
  go_wp2_with fail
  go_loopw [7, 20] (fun v i wr => ∃ j : Nat, j ≤ n ∧ i = .int .i64 j ∧ Hid (OwnF wr w.heap.size v (allF (ks.take j) nets)) ∧ Below w.heap.size w wr) (fun _ i _ => n - (intOf i).toNat)
  case atStart => exact ⟨0, by omega, rfl, by show OwnF _ _ _ _; simpa [allF] using OwnF.nil w w.heap.size, Below.refl _ _⟩
  case round =>
    obtain ⟨j, hj, rfl, HO, hbel⟩ := hrel
    by_cases hlt : j < n
    · obtain ⟨b, off, rfl, hc⟩ := H4.out (by omega)
      have hjl : j < ks.length := by rw [HL.out]; exact hlt
      have c1 := cell_below hbel _ _ (hc j _ (getD_map_int .i64 ks j hjl))
      have HT : Hid (allF (ks.take (j + 1)) nets = allF (ks.take j) nets ++ allK (ks[j]?.getD 0) nets nets) := allF_take ks nets j _ (by rw [List.getElem?_eq_getElem hjl]; rfl)
      have hlen := allF_len ks nets j hn
      clear hc hjl
      generalize ks[j]?.getD 0 = kd at *
      generalize allF (ks.take j) nets = base at *
      obtain ⟨w5, hw5⟩ : ∃ w5, w5 = wr := ⟨_, rfl⟩
      rw [← hw5] at HO hbel c1 ⊢
      clear hw5
      go_wp2_with fail
      go_loopw [7, 25] (fun v i wr => ∃ a : Nat, a ≤ nets ∧ i = .int .i64 a ∧ Hid (OwnF wr w.heap.size v (base ++ allK kd nets a)) ∧ Below w.heap.size w wr) (fun _ i _ => nets - (intOf i).toNat)
      case atStart => exact ⟨0, by omega, rfl, by show OwnF _ _ _ _; simpa [allK] using HO.out, hbel⟩
      case round =>
        obtain ⟨a, ha, rfl, HO, hbel⟩ := hrel
        by_cases hlta : a < nets
        · have hlen2 := allK_len kd nets a hn
          have HT2 : Hid (allK kd nets (a + 1) = allK kd nets a ++ oneK kd nets a) := allK_succ kd nets a
          have HK : Hid (oneK kd nets a = if outB kd 3 5 = true then [(kd, [(a : Int)])] else oneA kd nets a nets) := rfl
          have hsz := hbel.size
          cases hsh : outB kd 3 5
          · have HK2 : Hid (oneK kd nets a = oneA kd nets a nets) := by show _ = _; rw [HK.out, hsh]; rfl
            obtain ⟨w6, hw6⟩ : ∃ w6, w6 = wr := ⟨_, rfl⟩
            rw [← hw6] at HO hbel hsz ⊢
            clear hw6
            go_wp2_with (go_at_call 76; refine (isShort_any _ _).mono ?_; rintro e w' ⟨rfl, rfl⟩; rw [hsh])
            go_loopw [7, 39] (fun v i wr => ∃ q : Nat, q ≤ nets ∧ i = .int .i64 q ∧ Hid (OwnF wr w.heap.size v (base ++ allK kd nets a ++ oneA kd nets a q)) ∧ Below w.heap.size w wr) (fun _ i _ => nets - (intOf i).toNat)
            case atStart => exact ⟨0, by omega, rfl, by show OwnF _ _ _ _; simpa [oneA] using HO.out, hbel⟩
            case round =>
              obtain ⟨q, hq, rfl, HO, hbel⟩ := hrel
              by_cases hltq : q < nets
              · have hlen3 := oneA_len kd nets a q
                have HT3 := Lib.hid (oneA_succ kd nets a q)
                have HCB : Hid (condB kd a q = (decide (a < q) || (decide (q < a) && decide (kd = 5)))) := rfl
                have hsz := hbel.size
                have hadd : ∀ (vv : Value) (W : World), True := fun _ _ => trivial
                obtain ⟨us, hul, hown, hels⟩ := HO.out.alloc (.cells #[.int .i64 (a : Int), .int .i64 (q : Int)] 3)
                have hlL : (base ++ allK kd nets a ++ oneA kd nets a q).length ≤ 80000 := by simp only [List.length_append]; omega
                have hlit := Lib.hid (own_lit (w := wr) (base := w.heap.size) [.int .i64 (a : Int), .int .i64 (q : Int)] 3 2 rfl (by decide) hsz)
                have hnb : ∀ gg, (Value.slice (some ⟨wr.heap.size, 0, none⟩) 2 2).ownBlock = some gg → Value.ownBlock _ ≠ some gg := fun gg e e2 => by
                  obtain ⟨us', _, hown', _⟩ := HO.out
                  have h6 := (own_lt hown' e2).2
                  have h7 : wr.heap.size = gg := by injection e
                  omega
                have HNB := Lib.hid hnb
                have HUL := Lib.hid hul
                have HELS := Lib.hid hels
                clear hnb hul hels hadd
                generalize hLL : base ++ allK kd nets a ++ oneA kd nets a q = L at *
                have HLL := Lib.hid hLL
                clear hLL
                have hbA : Below w.heap.size w (wr.alloc (.cells #[.int .i64 (a : Int), .int .i64 (q : Int)] 3)) := hbel.alloc hsz _
                have hszA := hbA.size
                have HYES : Hid (∀ v1 w8, w8.ownsRow w.heap.size 60 2 v1 (L.length + 1) (cellsF L us ++ [.int .i64 kd, .slice (some ⟨wr.heap.size, 0, none⟩) 2 2]) → (wr.alloc (.cells #[.int .i64 (a : Int), .int .i64 (q : Int)] 3)).grownBy w8 (Value.ownBlock _) → (v1.ownBlock = Value.ownBlock _ ∨ ∃ b, v1.ownBlock = some b ∧ (wr.alloc (.cells #[.int .i64 (a : Int), .int .i64 (q : Int)] 3)).heap.size ≤ b) → condB kd a q = true → Hid (OwnF w8 w.heap.size v1 (base ++ allK kd nets a ++ oneA kd nets a (q + 1))) ∧ Below w.heap.size w w8) := fun v1 w8 ho hg hat hcb => by
                  refine ⟨?_, hbA.grown hg hszA (fun j hj => (own_lt hown hj).1)⟩
                  show OwnF _ _ _ _
                  rw [HT3.out, if_pos hcb, ← List.append_assoc, HLL.out]
                  exact ownF_snoc HUL.out hown HELS.out hlit.out HNB.out hg hat ho
                have HNO : Hid (condB kd a q = false → oneA kd nets a (q + 1) = oneA kd nets a q) := fun hcb => by rw [HT3.out, hcb]; simp
                by_cases haq : a < q
                · have d1 : decide (a < q) = true := by simpa using haq
                  have HC : Hid (condB kd a q = true) := by show _ = _; rw [HCB.out, d1]; rfl
                  go_wp2_with (at_builtin; refine app w.heap.size rfl _ _ 28 60 (.agg #[.int .i64 0, .slice none 0 0]) 2 32 rfl Tryz.underlying28 info_fault rfl (by decide) (by decide) _ _ _ hown _ 1 rfl (by rw [World.size_alloc]; rfl) rfl (by simp [Value.oneCell']) hszA (by omega) ?_; intro v1 w8 hown1 hg1 hat)
                  go_roundw
                  case rel => exact ⟨q + 1, by omega, by go_num, (HYES.out _ _ hown1 hg1 hat HC.out).1, (HYES.out _ _ hown1 hg1 hat HC.out).2⟩
                  case measure => simp [intOf]; omega
                · have d1 : decide (a < q) = false := by simpa using haq
                  by_cases hqa : q < a
                  · have d2 : decide (q < a) = true := by simpa using hqa
                    by_cases h5 : kd = 5
                    · have d3 : (kd == 5) = true := beq_iff_eq.2 h5
                      have HC : Hid (condB kd a q = true) := by show _ = _; rw [HCB.out, d1, d2, decide_eq_true h5]; rfl
                      clear h5
                      go_wp2_with (at_builtin; refine app w.heap.size rfl _ _ 28 60 (.agg #[.int .i64 0, .slice none 0 0]) 2 32 rfl Tryz.underlying28 info_fault rfl (by decide) (by decide) _ _ _ hown _ 1 rfl (by rw [World.size_alloc]; rfl) rfl (by simp [Value.oneCell']) hszA (by omega) ?_; intro v1 w8 hown1 hg1 hat)
                      go_roundw
                      case rel => exact ⟨q + 1, by omega, by go_num, (HYES.out _ _ hown1 hg1 hat HC.out).1, (HYES.out _ _ hown1 hg1 hat HC.out).2⟩
                      case measure => simp [intOf]; omega
                    · have d3 : (kd == 5) = false := beq_eq_false_iff_ne.2 h5
                      have HC : Hid (condB kd a q = false) := by show _ = _; rw [HCB.out, d1, d2, decide_eq_false h5]; rfl
                      clear h5
                      go_wp2_with fail
                      go_roundw
                      case rel => exact ⟨q + 1, by omega, by go_num, by rw [HNO.out HC.out, HLL.out]; exact HO, hbel⟩
                      case measure => simp [intOf]; omega
                  · have d2 : decide (q < a) = false := by simpa using hqa
                    have HC : Hid (condB kd a q = false) := by show _ = _; rw [HCB.out, d1, d2]; rfl
                    go_wp2_with fail
                    go_roundw
                    case rel => exact ⟨q + 1, by omega, by go_num, by rw [HNO.out HC.out, HLL.out]; exact HO, hbel⟩
                    case measure => simp [intOf]; omega
              · obtain rfl : q = nets := by omega
                have HE : Hid (base ++ allK kd q a ++ oneA kd q a q = base ++ allK kd q (a + 1)) := by show _ = _; rw [HT2.out, HK2.out, List.append_assoc]
                rw [HE.out] at HO
                go_wp2_with fail
                go_roundw
                case rel => exact ⟨a + 1, by omega, by go_num, HO, hbel⟩
                case measure => simp [intOf]; omega
          · have HK2 : Hid (oneK kd nets a = [(kd, [(a : Int)])]) := by show _ = _; rw [HK.out, hsh]; rfl
            obtain ⟨us, hul, hown, hels⟩ := HO.out.alloc (.cells #[.int .i64 (a : Int)] 3)
            have hlL : (base ++ allK kd nets a).length ≤ 80000 := by simp only [List.length_append]; omega
            have hlit := Lib.hid (own_lit (w := wr) (base := w.heap.size) [.int .i64 (a : Int)] 3 1 rfl (by decide) hsz)
            have hnb : ∀ gg, (Value.slice (some ⟨wr.heap.size, 0, none⟩) 1 1).ownBlock = some gg → Value.ownBlock _ ≠ some gg := fun gg e e2 => by
              obtain ⟨us', _, hown', _⟩ := HO.out
              have h6 := (own_lt hown' e2).2
              have h7 : wr.heap.size = gg := by injection e
              omega
            have HNB := Lib.hid hnb
            have HUL := Lib.hid hul
            have HELS := Lib.hid hels
            clear hnb hul hels
            have HX : Hid (base ++ allK kd nets (a + 1) = (base ++ allK kd nets a) ++ [(kd, [(a : Int)])]) := by show _ = _; rw [HT2.out, HK2.out, List.append_assoc]
            generalize hLL : base ++ allK kd nets a = L at *
            have HLL := Lib.hid hLL
            clear hLL
            have hbA : Below w.heap.size w (wr.alloc (.cells #[.int .i64 (a : Int)] 3)) := hbel.alloc hsz _
            have hszA := hbA.size
            go_wp2_with (first
              | (go_at_call 76; refine (isShort_any _ _).mono ?_; rintro e w' ⟨rfl, rfl⟩; rw [hsh])
              | (at_builtin; refine app w.heap.size rfl _ _ 28 60 (.agg #[.int .i64 0, .slice none 0 0]) 2 32 rfl Tryz.underlying28 info_fault rfl (by decide) (by decide) _ _ _ hown _ 1 rfl (by rw [World.size_alloc]; rfl) rfl (by simp [Value.oneCell']) hszA (by omega) ?_; intro v1 w8 hown1 hg1 hat))
            go_roundw
            case rel => exact ⟨a + 1, by omega, by go_num, by rw [HX.out]; exact ownF_snoc HUL.out hown HELS.out hlit.out HNB.out hg1 hat hown1, hbA.grown hg1 hszA (fun j hj => (own_lt hown hj).1)⟩
            case measure => simp [intOf]; omega
        · obtain rfl : a = nets := by omega
          rw [← HT.out] at HO
          go_wp2_with fail
          go_roundw
          case rel => exact ⟨j + 1, by omega, by go_num, HO, hbel⟩
          case measure => simp [intOf]; omega
    · obtain rfl : j = n := by omega
      have HTK : Hid (ks.take j = ks) := List.take_of_length_le (by rw [HL.out]; exact Nat.le_refl _)
      rw [HTK.out] at HO
      obtain ⟨us, hul, hown, hels⟩ := HO.out
      obtain ⟨A9, c9, rfl, _, _, _, _⟩ := Rd.of_own hown
      have d9 : decide ((20000 : Int) < ((allF ks nets).length : Int)) = true := by simp; omega
      clear hown hels hul
      generalize hfl : (allF ks nets).length = fl at *
      go_wp2_with fail
      go_ret2
      exact ⟨rfl, hbel⟩
theorem All_bad (nets : Int) (v : Value) (n : Nat) (ks : List Int) (w : World) (hr : Rd w 1 v n (ks.map (.int .i64))) (h0 : kfault nets ks ≠ 0) :
    Calls Tryz.prog 24 #[.int .i64 nets, v] w fun e w' => e = .returned (.tuple #[.slice none 0 0, .int .i64 (kfault nets ks)]) ∧ Below w.heap.size w w' := by
  have HKF := Lib.hid (kindsFault_any nets v n ks w hr)
  have e0 : (kfault nets ks == 0) = false := beq_eq_false_iff_ne.2 h0
  clear hr h0
  go_enter Tryz.func24, Tryz.ntmps24
  go_wp2_with fail
  refine HKF.out.mono ?_
  rintro e w' ⟨rfl, rfl⟩
  go_wp2_with fail
  go_ret2
  exact ⟨rfl, Below.refl _ _⟩
end Go.Proofs.YtedpnjbbcfiheaaGreatDoor

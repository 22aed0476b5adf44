/- slices.Values, Collect, Sorted, Compact at few 64-bit numbers. -/
import Derived.Test.YtedpnjbbcfiheaaGreatDoorY5
import Derived.Test.YtedpnjbbcfiheaaGreatDoorShelf
set_option linter.unusedVariables false
namespace Go.Proofs.YtedpnjbbcfiheaaGreatDoor
open Go.RowKit Go.Sc Go.Sort
theorem Values_any (A : Option Addr) (n cap : Nat) (w : World) :
    Calls Tryz.prog 63 #[.slice A n cap] w fun e w' => e = .returned (.func (.func 116) #[] #[.pointer (some ⟨w.heap.size, 0, none⟩)]) ∧ w' = w.alloc (.cells #[.slice A n cap] 74) := by
  go_enter Tryz.func63, Tryz.ntmps63
  go_wp2
  go_ret
  exact ⟨rfl, rfl⟩
/-- a function value that gives these numbers, one by one -/
def GivesN (w : World) (v : Value) (zs : List Nat) : Prop :=
  ∃ Bs A cap, v = .func (.func 116) #[] #[.pointer (some ⟨Bs, 0, none⟩)] ∧ Bs < w.heap.size ∧ w.cell? ⟨Bs, 0, none⟩ = some (.slice A zs.length cap) ∧ (0 < zs.length → ∃ b off, A = some ⟨b, off, none⟩ ∧ b < w.heap.size ∧ ∀ j, j < zs.length → w.cell? ⟨b, off + j, none⟩ = some (.int .u64 ((zs[j]?.getD 0 : Nat) : Int)))
theorem Values_gives (v : Value) (n : Nat) (zs : List Nat) (w : World) (hr : Rd w 1 v n (u64s zs)) :
    Calls Tryz.prog 63 #[v] w fun e w' => ∃ v', e = .returned v' ∧ GivesN w' v' zs ∧ Below w.heap.size w w' := by
  have hl : zs.length = n := by have := hr.len; simpa [u64s] using this
  obtain ⟨A, c, rfl, h1, h2, h3, h4⟩ := hr
  subst hl
  refine (Values_any A _ c w).mono ?_
  rintro e w' ⟨rfl, rfl⟩
  have hb : Below w.heap.size w (w.alloc (.cells #[.slice A zs.length c] 74)) := (Below.refl _ _).alloc (Nat.le_refl _) _
  refine ⟨_, rfl, ⟨_, A, c, rfl, by simp, by rw [World.cell?_alloc_at _ _ _ _ rfl]; rfl, fun h => ?_⟩, hb⟩
  obtain ⟨b, off, rfl, hc⟩ := h4 h
  have hc' : ∀ j, j < zs.length → w.cell? ⟨b, off + j, none⟩ = some (.int .u64 ((zs[j]?.getD 0 : Nat) : Int)) := fun j hj => hc j _ (u64s_at zs j hj)
  refine ⟨b, off, rfl, ?_, fun j hj => cell_below hb _ _ (hc' j hj)⟩
  have := World.block_lt_of_cell? w _ (hc' 0 h)
  simp
  show b < w.heap.size + 1
  have : b < w.heap.size := this
  omega
theorem AppendSeq_any (v : Value) (zs : List Nat) (w : World) (hg : GivesN w v zs) (hl : zs.length ≤ 1000000) :
    Calls Tryz.prog 162 #[.slice none 0 0, v] w fun e w' => ∃ v', e = .returned v' ∧ w'.ownsRow w.heap.size 73 1 v' zs.length (u64s zs) ∧ Below w.heap.size w w' := by
  obtain ⟨Bs, A, cap, rfl, h1, h2, h3⟩ := hg
  exact callsIn_wide.1 (appendSeq_in Fence.wide 3 trivial trivial rfl (by omega) Bs A cap zs hl w h1 h2 h3)
theorem Collect_any (v : Value) (zs : List Nat) (w : World) (hg : GivesN w v zs) (hl : zs.length ≤ 1000000) :
    Calls Tryz.prog 114 #[v] w fun e w' => ∃ v', e = .returned v' ∧ w'.ownsRow w.heap.size 73 1 v' zs.length (u64s zs) ∧ Below w.heap.size w w' := by
  have HA := Lib.hid (AppendSeq_any v zs w hg hl)
  obtain ⟨Bs, A, cap, rfl, h1, h2, h3⟩ := hg
  clear h2 h3
  go_enter Tryz.func114, Tryz.ntmps114
  go_wp2_with fail
  refine HA.out.mono ?_
  rintro e w1 ⟨v1, rfl, hown, hb⟩
  go_wp2_with fail
  go_ret
  exact ⟨_, rfl, hown, hb⟩
set_option maxRecDepth 100000 in
theorem insort_nil (w : World) : Calls Tryz.prog 190 #[.slice none 0 0, .int .i64 0, .int .i64 0] w fun e w' => e = .returned (.tuple #[]) ∧ w = w' := by
  go_enter Tryz.func190, Tryz.ntmps190
  go_wp2_with fail
  go_loopw [6] (fun i wr => i = .int .i64 1 ∧ w = wr) (fun i _ => 0)
  case atStart => exact ⟨rfl, rfl⟩
  case round =>
    obtain ⟨rfl, rfl⟩ := hrel
    go_wp2_with fail
    go_end0
    exact ⟨rfl, rfl⟩
set_option maxRecDepth 100000 in
theorem pdq_nil (lim : Int) (w : World) : Calls Tryz.prog 163 #[.slice none 0 0, .int .i64 0, .int .i64 0, .int .i64 lim] w fun e w' => e = .returned (.tuple #[]) ∧ w = w' := by
  go_enter Tryz.func163, Tryz.ntmps163
  go_wp2_with fail
  refine wp_loop_rounds 1 ?_
  rw [rounds_succ]
  go_wp2_with (go_at_call 190; refine (insort_nil _).mono ?_; rintro e w1 ⟨rfl, rfl⟩)
  refine bodyPost_ret (results_none rfl _ _ _) rfl ?_
  exact ⟨rfl, rfl⟩
set_option maxRecDepth 100000 in
theorem Sort64_nil (w : World) : Calls Tryz.prog 115 #[.slice none 0 0] w fun e w' => e = .returned (.tuple #[]) ∧ w = w' := by
  go_enter Tryz.func115, Tryz.ntmps115
  go_wp2_with fail
  refine (Tryz.bits_Len _ _ (by omega) (by omega)).mono ?_
  rintro e w1 ⟨rfl, rfl⟩
  go_wp2_with fail
  refine (pdq_nil _ _).mono ?_
  rintro e w1 ⟨rfl, rfl⟩
  go_wp2_with fail
  go_end0
  exact ⟨rfl, rfl⟩
theorem Sort64_own (base : Nat) (v : Value) (n : Nat) (rs : List Nat) (w : World) (hown : w.ownsRow base 73 1 v n (u64s rs)) (hn : n ≤ 12) :
    Calls Tryz.prog 115 #[v] w fun e w' => e = .returned (.tuple #[]) ∧ ∃ l : List Nat, l.Perm rs ∧ w'.ownsRow base 73 1 v n (u64s l) ∧ w.grownBy w' v.ownBlock := by
  rcases hown.2 with ⟨rfl, rfl⟩ | ⟨g, cap, cur, rfl, hb, hg, hnc, hcm, hcs, ht⟩
  · refine (Sort64_nil w).mono ?_
    rintro e w' ⟨rfl, rfl⟩
    exact ⟨rfl, rs, List.Perm.refl _, hown, gb_refl _ _⟩
  · exact Sort64_any base g n cap rs w hown hn
theorem Sorted_any (v : Value) (zs : List Nat) (w : World) (hg : GivesN w v zs) (hl : zs.length ≤ 12) :
    Calls Tryz.prog 62 #[v] w fun e w' => ∃ v' l, e = .returned v' ∧ l.Perm zs ∧ w'.ownsRow w.heap.size 73 1 v' zs.length (u64s l) ∧ Below w.heap.size w w' := by
  have HA := Lib.hid (Collect_any v zs w hg (by omega))
  obtain ⟨Bs, A, cap, rfl, h1, h2, h3⟩ := hg
  clear h2 h3
  go_enter Tryz.func62, Tryz.ntmps62
  go_wp2_with fail
  refine HA.out.mono ?_
  rintro e w1 ⟨v1, rfl, hown, hb⟩
  obtain ⟨A1, c1, rfl, _, _, _, _⟩ := Rd.of_own hown
  have HS := Lib.hid (Sort64_own _ _ _ _ _ hown hl)
  have HB : ∀ w2, w1.grownBy w2 (Value.slice A1 zs.length c1).ownBlock → Below w.heap.size w w2 := fun w2 h => hb.grown h hb.size (fun j hj => (own_lt hown hj).1)
  have HBH := Lib.hid HB
  clear HB hown
  go_wp2_with fail
  refine HS.out.mono ?_
  rintro e w2 ⟨rfl, l, hp, hown2, hg2⟩
  go_wp2_with fail
  go_ret
  exact ⟨_, l, rfl, hp, hown2, HBH.out _ hg2⟩
/-! ### Compact -/
def encN (m : Nat) : Value := .int .u64 (m : Int)
theorem eqlN : Go.Proofs.EqlAt Tryz.prog 73 encN (fun x y => decide (x = y)) :=
  ⟨fun x y w => by
      have := (Go.Proofs.EqlAt.intD Tryz.prog 73 .u64).1 (x : Int) (y : Int) w
      dsimp only at this
      rw [show decide ((x : Int) = (y : Int)) = decide (x = y) from decide_eq_decide.2 (by omega)] at this
      exact this, fun op a b x y w => (Go.Proofs.EqlAt.intD Tryz.prog 73 .u64).2 op a b (x : Int) (y : Int) w⟩
theorem neqN : Go.Proofs.NeqAt Tryz.prog 73 encN (fun x y => decide (x = y)) :=
  ⟨fun x y w => by
      have := (Go.Proofs.NeqAt.intD Tryz.prog 73 .u64).1 (x : Int) (y : Int) w
      dsimp only at this
      rw [show decide ((x : Int) = (y : Int)) = decide (x = y) from decide_eq_decide.2 (by omega)] at this
      exact this, fun op a b x y w => (Go.Proofs.NeqAt.intD Tryz.prog 73 .u64).2 op a b (x : Int) (y : Int) w⟩
theorem compactUpTo_mem {α : Type} [Inhabited α] [DecidableEq α] (d : Array α) : ∀ m, ∀ x, x ∈ Lib.compactUpTo d m ↔ ∃ j, j < m ∧ x = d[j]!
  | 0, x => by simp [Lib.compactUpTo]
  | m + 1, x => by
    rw [Lib.compactUpTo_succ, List.mem_append, compactUpTo_mem d m]
    by_cases hk : m = 0 ∨ d[m]! ≠ d[m - 1]!
    · have hkk : Lib.keeps d m = true := by simp only [Lib.keeps]; exact decide_eq_true hk
      rw [if_pos hkk]
      constructor
      · rintro (⟨j, hj, rfl⟩ | hx)
        · exact ⟨j, by omega, rfl⟩
        · exact ⟨m, by omega, by simpa using hx⟩
      · rintro ⟨j, hj, rfl⟩
        by_cases e : j = m
        · right; subst e; simp
        · left; exact ⟨j, by omega, rfl⟩
    · have hkk : Lib.keeps d m = false := by simp only [Lib.keeps]; exact decide_eq_false hk
      rw [if_neg (by rw [hkk]; decide)]
      have h0 : m ≠ 0 := fun e => hk (.inl e)
      have he : d[m]! = d[m - 1]! := Classical.byContradiction fun e => hk (.inr e)
      constructor
      · rintro (⟨j, hj, rfl⟩ | hx)
        · exact ⟨j, by omega, rfl⟩
        · cases hx
      · rintro ⟨j, hj, rfl⟩
        left
        by_cases e : j = m
        · subst e; exact ⟨j - 1, by omega, he⟩
        · exact ⟨j, by omega, rfl⟩
theorem compact_mem {α : Type} [Inhabited α] [DecidableEq α] (l : List α) (x : α) : x ∈ Lib.compact l ↔ x ∈ l := by
  unfold Lib.compact
  rw [compactUpTo_mem, List.mem_iff_getElem]
  constructor
  · rintro ⟨j, hj, rfl⟩; exact ⟨j, hj, by rw [getElem!_pos l.toArray j (by simpa using hj)]; rfl⟩
  · rintro ⟨j, hj, rfl⟩; exact ⟨j, hj, by rw [getElem!_pos l.toArray j (by simpa using hj)]; rfl⟩
theorem compact_len {α : Type} [Inhabited α] [DecidableEq α] (l : List α) : (Lib.compact l).length ≤ l.length := by
  unfold Lib.compact Lib.compactUpTo
  rw [List.length_map]
  exact Nat.le_trans (List.length_filter_le _ _) (by simp)
set_option maxRecDepth 100000 in
theorem Compact64_nil (w : World) : Calls Tryz.prog 61 #[.slice none 0 0] w fun e w' => e = .returned (.slice none 0 0) ∧ w = w' := by
  go_enter Tryz.func61, Tryz.ntmps61
  go_wp2_with fail
  go_ret
  exact ⟨rfl, rfl⟩
theorem zero_u64 : ∀ w, (zeroValue 73).run Tryz.prog w = .ok (encN 0) w := fun _ => by kernel_rfl
theorem Compact64_own (base : Nat) (v : Value) (n : Nat) (rs : List Nat) (w : World) (h : w.ownsRow base 73 1 v n (u64s rs)) (hn : n < 4611686018427387904) :
    Calls Tryz.prog 61 #[v] w fun e w' => ∃ v', e = .returned v' ∧ w'.ownsRow base 73 1 v' (Lib.compact rs).length (u64s (Lib.compact rs)) ∧ w.grownBy w' v.ownBlock := by
  have hl : rs.length = n := by have := h.1; simpa [u64s] using this
  rcases h.2 with ⟨rfl, rfl⟩ | ⟨g, cap, cur, rfl, hb, hg, hnc, hcm, hcs, ht⟩
  · obtain rfl : rs = [] := List.eq_nil_of_length_eq_zero hl
    refine (Compact64_nil w).mono ?_
    rintro e w' ⟨rfl, rfl⟩
    exact ⟨_, rfl, h, gb_refl _ _⟩
  · subst hl
    have hH : Holds encN w g 0 rs.toArray := by
      intro j hj
      have hj' : j < rs.length := by simpa using hj
      refine ⟨?_, by simp [World.frozen?, hg]⟩
      have := own_cell_u64 h j hj'
      rw [Nat.zero_add, this, getElem!_pos rs.toArray j hj]
      simp [encN, hj']
    refine (Tryz.slices_Compact_f61 encN (fun _ => rfl) eqlN neqN 0 zero_u64 g 0 cap rs.toArray w hH (by simp; omega) (by simpa using hnc)).mono ?_
    rintro e w' ⟨rfl, q, rfl⟩
    have hcl := compact_len rs
    have e1 : Lib.compactUpTo rs.toArray rs.toArray.size = Lib.compact rs := by unfold Lib.compact; simp
    rw [e1]
    refine ⟨_, rfl, ?_, grown_putRow⟩
    have := Lib.ownsRow_putRow (enc := encN) (q := q) (zs := rs) (ys := Lib.compact rs ++ List.replicate (rs.length - (Lib.compact rs).length) 0) h (by simp; omega) hcl
    rw [List.take_left' rfl] at this
    exact this
end Go.Proofs.YtedpnjbbcfiheaaGreatDoor

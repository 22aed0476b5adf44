import Derived.Below
import Derived.Laws.OwnMore
import Derived.Laws.MakeOwn
import Derived.Deep.AppendLies
import Derived.Deep.AppendSrc
import Derived.Deep.Draws
import Derived.Deep.OwnRows
import Derived.OwnWalk
import Derived.Laws.Rows
import Derived.WalkKit
import Derived.Maps.AppendAt
import Derived.Test.YtedpnjbbcfiheaaGreatDoorProg
import Derived.Outline
import Derived.RowKit
import Derived.Deep.QuietTactic
import Derived.BigQuiet
import Derived.Lib.Hide
set_option linter.unusedSimpArgs false
set_option linter.unusedSectionVars false
set_option linter.unusedVariables false
/- Words on memory that the walks of this claim share: a slice value that reads as a list of cells, rows of the call's own, frames. -/
namespace Go.Sc
open Go.RowKit

theorem add_plain (g o j : Nat) : (⟨g, o, none⟩ : Addr).add j = ⟨g, o + j, none⟩ := by
  unfold Addr.add
  split <;> simp_all

/-- Slice value v has n elements of size cells each; they read as xs. -/
def Rd (w : World) (size : Nat) (v : Value) (n : Nat) (xs : List Value) : Prop :=
  ∃ A c, v = .slice A n c ∧ n ≤ c ∧ c ≤ maxLen ∧ xs.length = n * size ∧
    (0 < n → ∃ b off, A = some ⟨b, off, none⟩ ∧ ∀ j u, xs[j]? = some u → w.cell? ⟨b, off + j, none⟩ = some u)

theorem Rd.nil (w : World) (size : Nat) : Rd w size (.slice none 0 0) 0 [] := ⟨none, 0, rfl, by omega, by omega, by simp, fun h => absurd h (by omega)⟩
theorem Rd.keep {w w' : World} {size n : Nat} {v : Value} {xs : List Value} (h : Rd w size v n xs) (hk : ∀ p u, w.cell? p = some u → w'.cell? p = some u) : Rd w' size v n xs := by
  obtain ⟨A, c, rfl, h1, h2, h3, h4⟩ := h
  refine ⟨A, c, rfl, h1, h2, h3, fun hn => ?_⟩
  obtain ⟨b, off, rfl, hc⟩ := h4 hn
  exact ⟨b, off, rfl, fun j u hu => hk _ _ (hc j u hu)⟩
theorem cell_below {w w' : World} (hb : Below w.heap.size w w') (p : Addr) (u : Value) (h : w.cell? p = some u) : w'.cell? p = some u :=
  (hb.cell (World.block_lt_of_cell? w p h)).trans h
theorem Rd.below {w w' : World} {size n : Nat} {v : Value} {xs : List Value} (h : Rd w size v n xs) (hb : Below w.heap.size w w') : Rd w' size v n xs := h.keep (cell_below hb)
theorem Rd.grown {w w' : World} {size n : Nat} {v : Value} {xs : List Value} {row : Option Nat} (h : Rd w size v n xs) (hg : w.grownBy w' row) (hr : ∀ A m c b, v = .slice (some A) m c → row = some b → A.block ≠ b) : Rd w' size v n xs := by
  obtain ⟨A, c, rfl, h1, h2, h3, h4⟩ := h
  refine ⟨A, c, rfl, h1, h2, h3, fun hn => ?_⟩
  obtain ⟨b, off, rfl, hc⟩ := h4 hn
  exact ⟨b, off, rfl, fun j u hu => hg.cell (hc j u hu) (fun e => hr _ _ _ b rfl e.symm rfl)⟩
theorem Rd.len {w : World} {size n : Nat} {v : Value} {xs : List Value} (h : Rd w size v n xs) : xs.length = n * size := by
  obtain ⟨A, c, rfl, h1, h2, h3, h4⟩ := h
  exact h3
theorem Rd.of_own {w : World} {base : Nat} {e : TypeId} {size n : Nat} {v : Value} {xs : List Value} (h : w.ownsRow base e size v n xs) : Rd w size v n xs := by
  rcases h.2 with ⟨rfl, rfl⟩ | ⟨g, cap, cur, rfl, hb, hg, hnc, hcm, hcs, ht⟩
  · have := h.1
    obtain rfl : xs = [] := List.eq_nil_of_length_eq_zero (by simpa using this)
    exact Rd.nil w size
  · refine ⟨_, cap, rfl, hnc, hcm, h.1, fun _ => ⟨g, 0, rfl, fun j u hu => ?_⟩⟩
    have := h.cells (g := g) rfl j u hu
    rwa [add_plain] at this

theorem ret_int {k : IntKind} {a b : Int} (h : a = b) : Ending.returned (.int k a) = .returned (.int k b) := by rw [h]
theorem ret_bool {a b : Bool} (h : a = b) : Ending.returned (.bool a) = .returned (.bool b) := by rw [h]
theorem ret_str {a b : ByteArray} (h : a = b) : Ending.returned (.string a) = .returned (.string b) := by rw [h]
theorem tmod_emod (x n : Int) (hn : 1 ≤ n) : x % n = if x.tmod n < 0 then x.tmod n + n else x.tmod n := by
  have h1 := Int.tmod_lt_of_pos x (show 0 < n by omega)
  have h2 := Int.lt_tmod_of_pos x (show 0 < n by omega)
  have h3 := Int.mul_tdiv_add_tmod x n
  split
  · have e : x = x.tmod n + n + n * (x.tdiv n - 1) := by rw [Int.mul_sub]; omega
    rw [e, Int.add_mul_emod_self_left]
    rw [← e]
    exact Int.emod_eq_of_lt (by omega) (by omega)
  · have e : x = x.tmod n + n * x.tdiv n := by omega
    rw [e, Int.add_mul_emod_self_left]
    rw [← e]
    exact Int.emod_eq_of_lt (by omega) (by omega)


section
variable {P : Program} {ops : Array Oper} {rest : List Oper} {o : Oper} {a : Act} {Q : Exit → Act → World → Prop}
/-- append(v, y..): the new elements lie in the block that has just been made; v is a row of the call's own. -/
theorem app {W : World} (base : Nat) (hgd : o.guard = none) (s x : Operand) (t e : TypeId) (z : Value) (size bytes : Nat)
    (ho : o.op = .call { callee := .builtin .append, args := #[s, x], argTypes := #[t, t] })
    (ht : P.underlying t = some (.slice e)) (hinfo : (P.info? e).map (fun i => (i.zero, i.size, i.bytes)) = some (some z, size, bytes)) (hz : z.cells.size = size) (hs0 : 0 < size) (hb0 : 0 < bytes)
    (v : Value) (n : Nat) (xs : List Value) (HO : W.ownsRow base e size v n xs) (cs : Array Value) (m : Nat) (hs : a.eval s = v) (hx : a.eval x = .slice (some ⟨W.heap.size, 0, none⟩) m m) (hcs : cs.size = m * size) (h1 : ∀ u ∈ cs.toList, u.oneCell' = true)
    (hbase : base ≤ W.heap.size) (hl : (n + m) * bytes ≤ 140737488355328)
    (h : ∀ v1 w1, w1.ownsRow base e size v1 (n + m) (xs ++ cs.toList) → W.grownBy w1 v.ownBlock → (v1.ownBlock = v.ownBlock ∨ ∃ b, v1.ownBlock = some b ∧ W.heap.size ≤ b) → wpList P ops Q rest (a.put o.dst v1) w1) :
    wpList P ops Q (o :: rest) a (W.alloc (.cells cs e)) := by
  obtain ⟨i0, hi, hzz⟩ := Option.map_eq_some_iff.1 hinfo
  simp only [Prod.mk.injEq] at hzz
  obtain ⟨hz0, hz1, hz2⟩ := hzz
  have hlen : n + m ≤ 140737488355328 := Nat.le_trans (Nat.le_mul_of_pos_right _ hb0) hl
  refine wpList_append_own_at (W.alloc (.cells cs e)) hgd s x t ho base e i0 z size bytes ht hi hz0 hz1 hz2 hz hs0 v n xs hs (HO.alloc _) ⟨W.heap.size, 0, none⟩ m m cs.toList hx (by simpa using hcs)
    (World.news_of_block (cs := cs) (t := e) (fr := (0, 0)) (heap_alloc_new W _)) h1 (by simp only [maxLen]; omega) hl (by simp; omega) ?_
  intro v1 w1 hown hg _ hat
  refine h v1 w1 hown (World.grownBy.trans (World.grownBy_alloc W _ _) hg) ?_
  rcases hat with hat | hat
  · exact .inl hat
  · exact .inr ⟨_, hat, by simp⟩
end
theorem own_lt {w : World} {base : Nat} {e : TypeId} {size n : Nat} {v : Value} {xs : List Value} (h : w.ownsRow base e size v n xs) {k : Nat} (hk : v.ownBlock = some k) : base ≤ k ∧ k < w.heap.size := h.lt k hk
theorem own_grown {w w1 : World} {base : Nat} {e : TypeId} {size n : Nat} {v : Value} {xs : List Value} (h : w.ownsRow base e size v n xs) {row : Option Nat} (hg : w.grownBy w1 row) (hr : ∀ k, row = some k → v.ownBlock ≠ some k) : w1.ownsRow base e size v n xs :=
  h.kept hg (by
    cases row with
    | none => cases hv : v.ownBlock <;> simp
    | some k => exact .inr (by have := hr k rfl; simpa using this))
theorem own_below {w w1 : World} {base : Nat} {e : TypeId} {size n : Nat} {v : Value} {xs : List Value} (h : w.ownsRow base e size v n xs) (hb : Below w.heap.size w w1) : w1.ownsRow base e size v n xs :=
  own_grown h ⟨hb.os, hb.tape, hb.output, hb.size, fun i hi _ => hb.block i hi⟩ (row := none) (by simp)
theorem own_mono {w : World} {base base' : Nat} {e : TypeId} {size n : Nat} {v : Value} {xs : List Value} (h : w.ownsRow base e size v n xs) (hb : base' ≤ base) : w.ownsRow base' e size v n xs := by
  refine ⟨h.1, ?_⟩
  rcases h.2 with h2 | ⟨g, cap, cur, hv, hg, r⟩
  · exact .inl h2
  · exact .inr ⟨g, cap, cur, hv, by omega, r⟩
theorem oneInt (k : IntKind) (x : Int) : (Value.int k x).oneCell' = true := rfl
theorem getD_map_int (k : IntKind) (l : List Int) (j : Nat) (h : j < l.length) : (l.map (Value.int k))[j]? = some (.int k (l[j]?.getD 0)) := by
  simp [List.getElem?_eq_getElem h]
theorem own_cell_int {w : World} {base g n cap : Nat} {e : TypeId} {k : IntKind} {l : List Int} (h : w.ownsRow base e 1 (.slice (some ⟨g, 0, none⟩) n cap) n (l.map (.int k))) (j : Nat) (hj : j < n) : w.cell? ⟨g, j, none⟩ = some (.int k (l[j]?.getD 0)) := by
  rw [h.cellAt j (by omega)]
  have := h.1
  exact getD_map_int k l j (by simp at this; omega)
theorem own_set_int {w : World} {base g n cap : Nat} {e : TypeId} {k : IntKind} {l : List Int} (h : w.ownsRow base e 1 (.slice (some ⟨g, 0, none⟩) n cap) n (l.map (.int k))) (j : Nat) (x : Int) :
    (w.setCell ⟨g, j, none⟩ (.int k x)).ownsRow base e 1 (.slice (some ⟨g, 0, none⟩) n cap) n ((l.set j x).map (.int k)) := by
  have := (h.stored j (.int k x)).1
  rwa [← List.map_set] at this
theorem Rd.block_lt {w : World} {size n : Nat} {v : Value} {xs : List Value} (h : Rd w size v n xs) (hn : 0 < n) (hs : 0 < size) : ∀ A m c, v = .slice (some A) m c → A.block < w.heap.size := by
  intro A m c hv
  obtain ⟨A', c', e, h1, h2, h3, h4⟩ := h
  obtain ⟨b', off', rfl, hc⟩ := h4 hn
  rw [e] at hv
  injection hv with e1 e2 e3
  injection e1 with e1
  subst e1
  have hl : 0 < xs.length := by rw [h3]; exact Nat.mul_pos hn hs
  exact World.block_lt_of_cell? _ _ (hc 0 xs[0] (List.getElem?_eq_getElem hl))

section
variable {P : Program} {ops : Array Oper} {o : Oper} {a : Act} {K : Act → World → Prop} {Q : Exit → Act → World → Prop} {E : Prop}
/-- The same at a step of a region that draws its order; the new elements lie in block B. -/
theorem app_step {W : World} (base : Nat) (hgd : o.guard = none) (s x : Operand) (t e : TypeId) (z : Value) (size bytes : Nat)
    (ho : o.op = .call { callee := .builtin .append, args := #[s, x], argTypes := #[t, t] })
    (ht : P.underlying t = some (.slice e)) (hinfo : (P.info? e).map (fun i => (i.zero, i.size, i.bytes)) = some (some z, size, bytes)) (hz : z.cells.size = size) (hs0 : 0 < size) (hb0 : 0 < bytes)
    (v : Value) (n : Nat) (xs : List Value) (HO : W.ownsRow base e size v n xs) (B m : Nat) (hm : 0 < m) (cs : Array Value) (hB : ∃ W0 : World, ∃ k, W = (W0.alloc (.cells cs e)).drewN k ∧ W0.heap.size = B) (hs : a.eval s = v) (hx : a.eval x = .slice (some ⟨B, 0, none⟩) m m) (hcs : cs.size = m * size) (h1 : ∀ u ∈ cs.toList, u.oneCell' = true)
    (hbase : base ≤ W.heap.size) (hl : (n + m) * bytes ≤ 140737488355328)
    (h : ∀ g cap w1, w1.ownsRow base e size (.slice (some ⟨g, 0, none⟩) (n + m) cap) (n + m) (xs ++ cs.toList) → W.grownBy w1 v.ownBlock → (v.ownBlock = some g ∨ W.heap.size ≤ g) → K (a.put o.dst (.slice (some ⟨g, 0, none⟩) (n + m) cap)) w1) :
    if Region.wanted o (yielded ops a.tmps) = true then Oper.wp P o a W K Q else E := by
  obtain ⟨i0, hi, hzz⟩ := Option.map_eq_some_iff.1 hinfo
  simp only [Prod.mk.injEq] at hzz
  obtain ⟨hz0, hz1, hz2⟩ := hzz
  have hlen : n + m ≤ 140737488355328 := Nat.le_trans (Nat.le_mul_of_pos_right _ hb0) hl
  obtain ⟨W0, k, hW, hBs⟩ := hB
  refine step_append_lies W hgd s x t ho base e i0 z size bytes ht hi hz0 hz1 hz2 hz hs0 v n xs hs HO ⟨B, 0, none⟩ m m cs.toList hx (by simpa using hcs) ?_ h1 hm (by simp only [maxLen]; omega) hl hbase _ rfl ?_
  · intro j u hu
    subst hW hBs
    exact World.news_of_block (cs := cs) (t := e) (fr := (0, 0)) (heap_alloc_new W0 _) j u hu
  · intro g cap w1 hown hg hat _
    refine h g cap w1 hown hg ?_
    rcases hat with hat | hat
    · exact .inl hat
    · exact .inr (by omega)
end
theorem quiet_left {P : Program} {f : FuncId} {args : Array Value} {w : World} {n : Nat} {v : Value}
    (h : Calls P f args (w.drewN n) fun e w' => e = .returned v ∧ w.drewN n = w') : Calls P f args (w.drewN n) fun e w'' => e = .returned v ∧ ∃ m, w'' = w.drewN m :=
  h.mono fun _ _ ⟨he, hm⟩ => ⟨he, n, hm.symm⟩
theorem quiet_add_left {P : Program} {f : FuncId} {args : Array Value} {w : World} {a n : Nat} {v : Value}
    (h : Calls P f args (w.drewN (a + n)) fun e w' => e = .returned v ∧ w.drewN (a + n) = w') :
    Calls P f args (w.drewN (a + n)) fun e w'' => e = .returned v ∧ ∃ m, w'' = w.drewN (a + m) :=
  h.mono fun _ _ ⟨he, hm⟩ => ⟨he, n, hm.symm⟩
theorem drop_at {α : Type} {l : List α} {k : Nat} {x : α} (h : l[k]? = some x) : l.drop k = x :: l.drop (k + 1) := by
  obtain ⟨hk, rfl⟩ := List.getElem?_eq_some_iff.1 h
  exact List.drop_eq_getElem_cons hk
theorem take_getD {α : Type} (l : List α) (d : α) (j : Nat) (h : j < l.length) : l.take (j + 1) = l.take j ++ [l[j]?.getD d] := by
  rw [List.take_succ_eq_append_getElem h, List.getElem?_eq_getElem h]; rfl
theorem pw_below_drewN {B : Nat} {w W : World} (h : Below B w W) (n : Nat) : Below B w (W.drewN n) := ⟨h.os, h.tape, h.output, h.size, h.block⟩
end Go.Sc

/- The stream of numbers as a state in memory, and what its first methods answer. -/
namespace Go.Sc
open Go.RowKit

theorem World.grownBy.trans' {a b c : World} {g : Nat} (h : a.grownBy b (some g)) (k : b.grownBy c (some g)) : a.grownBy c (some g) :=
  ⟨k.os.trans h.os, k.tape.trans h.tape, k.output.trans h.output, Nat.le_trans h.size k.size, fun i hi hne => (k.block i (Nat.lt_of_lt_of_le hi h.size) hne).trans (h.block i hi hne)⟩
theorem gb_drewN {a w : World} {row : Option Nat} (h : a.grownBy w row) (n : Nat) : a.grownBy (w.drewN n) row := ⟨h.os, h.tape, h.output, h.size, h.block⟩
theorem gb_alloc {a w : World} {row : Option Nat} (h : a.grownBy w row) (o : Obj) : a.grownBy (w.alloc o) row :=
  ⟨h.os, h.tape, h.output, Nat.le_trans h.size (by simp), fun i hi hne => (Below.heap_alloc w o i (Nat.lt_of_lt_of_le hi h.size)).trans (h.block i hi hne)⟩
theorem gb_setCell {a w : World} {g : Nat} (h : a.grownBy w (some g)) {p : Addr} (hp : p.block = g ∨ a.heap.size ≤ p.block) (u : Value) : a.grownBy (w.setCell p u) (some g) :=
  ⟨h.os, h.tape, h.output, by simpa [World.setCell] using h.size, fun i hi hne => (Below.heap_setCell w p u i (by
    rintro rfl
    rcases hp with hp | hp
    · exact hne (by rw [hp])
    · omega)).trans (h.block i hi hne)⟩
theorem gb_below {a w w' : World} {g : Nat} (h : a.grownBy w (some g)) (hb : Below w.heap.size w w') : a.grownBy w' (some g) :=
  World.grownBy.trans' h ⟨hb.os, hb.tape, hb.output, hb.size, fun i hi _ => hb.block i hi⟩
theorem gb_refl (w : World) (row : Option Nat) : w.grownBy w row := ⟨rfl, rfl, rfl, Nat.le_refl _, fun _ _ _ => rfl⟩
theorem gb_of_below {a w : World} (h : Below a.heap.size a w) (row : Option Nat) : a.grownBy w row := ⟨h.os, h.tape, h.output, h.size, fun i hi _ => h.block i hi⟩

/-- Block g holds a stream (of struct type T) over the numbers xs, a of which have been handed out. -/
structure Strm (T : TypeId) (w : World) (g : Nat) (xs : List Int) (a : Int) : Prop where
  blk : ∃ A c, w.heap[g]? = some (.cells #[.slice A xs.length c, .int .i64 a] T (0, 0)) ∧
    (0 < xs.length → ∃ b off, A = some ⟨b, off, none⟩ ∧ b < g ∧ ∀ j, j < xs.length → w.cell? ⟨b, off + j, none⟩ = some (.int .i64 (xs.getD j 0)))
  small : xs.length * 8 ≤ 140737488351232
  wf : ∀ x ∈ xs, -9223372036854775808 ≤ x ∧ x ≤ 9223372036854775807
  lo : 0 ≤ a
  hi : a ≤ 1000000000

theorem Strm.mono {T : TypeId} {w w' : World} {g : Nat} {xs : List Int} {a : Int} (h : Strm T w g xs a) (hg : w'.heap[g]? = w.heap[g]?) (hk : ∀ p u, p.block ≠ g → w.cell? p = some u → w'.cell? p = some u) : Strm T w' g xs a := by
  obtain ⟨⟨A, c, hb, hc⟩, h2, h3, h4, h5⟩ := h
  refine ⟨⟨A, c, hg.trans hb, fun hn => ?_⟩, h2, h3, h4, h5⟩
  obtain ⟨b, off, rfl, hne, hcell⟩ := hc hn
  exact ⟨b, off, rfl, hne, fun j hj => hk _ _ (by show b ≠ g; omega) (hcell j hj)⟩
theorem Strm.lt {T : TypeId} {w : World} {g : Nat} {xs : List Int} {a : Int} (h : Strm T w g xs a) : g < w.heap.size := by
  obtain ⟨A, c, hb, _⟩ := h.blk
  exact (Array.getElem?_eq_some_iff.1 hb).1
theorem Strm.below {T : TypeId} {w w' : World} {g : Nat} {xs : List Int} {a : Int} (h : Strm T w g xs a) (hb : Below w.heap.size w w') : Strm T w' g xs a :=
  h.mono (hb.block g h.lt) fun p u _ hu => cell_below hb p u hu
theorem Strm.drewN {T : TypeId} {w : World} {g : Nat} {xs : List Int} {a : Int} (h : Strm T w g xs a) (n : Nat) : Strm T (w.drewN n) g xs a := h.mono rfl fun _ _ _ hu => hu
theorem Strm.alloc {T : TypeId} {w : World} {g : Nat} {xs : List Int} {a : Int} (h : Strm T w g xs a) (o : Obj) : Strm T (w.alloc o) g xs a := h.below ((Below.refl _ _).alloc (Nat.le_refl _) o)
theorem Strm.step {T : TypeId} {w : World} {g : Nat} {xs : List Int} {a b : Int} (h : Strm T w g xs a) (h0 : 0 ≤ b) (h1 : b ≤ 1000000000) : Strm T (w.setCell ⟨g, 1, none⟩ (.int .i64 b)) g xs b := by
  obtain ⟨⟨A, c, hb, hc⟩, h2, h3, h4, h5⟩ := h
  refine ⟨⟨A, c, by simp [World.setCell, Array.getElem?_modify, hb], fun hn => ?_⟩, h2, h3, h0, h1⟩
  obtain ⟨b', off, rfl, hne, hcell⟩ := hc hn
  exact ⟨b', off, rfl, hne, fun j hj => (World.cell?_of_block (w := w) (Below.heap_setCell _ _ _ _ (by show b' ≠ g; omega))).trans (hcell j hj)⟩

/-- A store to a block that was made behind the stream. -/
theorem Strm.far {T : TypeId} {w : World} {g : Nat} {xs : List Int} {a : Int} (h : Strm T w g xs a) {p : Addr} (hg : g < p.block) (v : Value) : Strm T (w.setCell p v) g xs a := by
  obtain ⟨⟨A, c, hh, hc⟩, h2, h3, h4, h5⟩ := h
  refine ⟨⟨A, c, (Below.heap_setCell _ _ _ _ (by omega)).trans hh, fun hn => ?_⟩, h2, h3, h4, h5⟩
  obtain ⟨b, off, rfl, hne, hcell⟩ := hc hn
  exact ⟨b, off, rfl, hne, fun j hj => (World.cell?_of_block (w := w) (Below.heap_setCell _ _ _ _ (by show b ≠ p.block; omega))).trans (hcell j hj)⟩
/-- What is written behind the stream leaves it as it is. -/
theorem Strm.grown {T : TypeId} {w w' : World} {g : Nat} {xs : List Int} {a : Int} {row : Option Nat} (h : Strm T w g xs a) (hg : w.grownBy w' row) (hr : ∀ k, row = some k → g < k) : Strm T w' g xs a := by
  have hlt := h.lt
  obtain ⟨⟨A, c, hh, hc⟩, h2, h3, h4, h5⟩ := h
  refine ⟨⟨A, c, (hg.block g hlt (fun e => by have := hr _ e.symm; omega)).trans hh, fun hn => ?_⟩, h2, h3, h4, h5⟩
  obtain ⟨b, off, rfl, hne, hcell⟩ := hc hn
  exact ⟨b, off, rfl, hne, fun j hj => hg.cell (hcell j hj) (fun e => by have := hr _ e.symm; simp only at this; omega)⟩

/-! ### what the methods answer -/
def belowN (x n : Int) : Int := if n < 1 then 0 else x % n
/-- What Next(n) answers when a numbers have been handed out. -/
def nx (xs : List Int) (a n : Int) : Int :=
  if xs.length = 0 then belowN ((a + 1) * 7919) n
  else belowN (belowN (xs.getD (a % xs.length).toNat 0) 1073741824 + a / xs.length * (7919 + a % xs.length)) n
theorem belowN_lo (x n : Int) : 0 ≤ belowN x n := by
  unfold belowN
  split
  · omega
  · exact Int.emod_nonneg _ (by omega)
theorem belowN_lt (x n : Int) (h : 1 ≤ n) : belowN x n < n := by
  unfold belowN
  rw [if_neg (by omega)]
  exact Int.emod_lt_of_pos _ (by omega)
theorem nx_lo (xs : List Int) (a n : Int) : 0 ≤ nx xs a n := by unfold nx; split <;> exact belowN_lo _ _
theorem nx_lt (xs : List Int) (a n : Int) (h : 1 ≤ n) : nx xs a n < n := by unfold nx; split <;> exact belowN_lt _ _ h
theorem round_bd (a m : Int) (h0 : 0 ≤ a) (h1 : a ≤ 1000000000) (hm : 1 ≤ m) : 0 ≤ a / m * (7919 + a % m) ∧ a / m * (7919 + a % m) ≤ 8000000000000 := by
  have hq : 0 ≤ a / m := Int.ediv_nonneg h0 (by omega)
  have hr := Int.emod_nonneg a (show m ≠ 0 by omega)
  have hr2 := Int.emod_lt_of_pos a (show 0 < m by omega)
  have hqa : a / m ≤ a := Int.ediv_le_self m h0
  have hmq : a / m * m ≤ a := by have := Int.mul_ediv_add_emod a m; rw [Int.mul_comm] at this; omega
  have h3 : a / m * (a % m) ≤ a / m * m := Int.mul_le_mul_of_nonneg_left (by omega) hq
  constructor
  · exact Int.mul_nonneg hq (by omega)
  · rw [Int.mul_add]; omega

end Go.Sc

/- Walks of the stream's first methods: Below, Next, Range, Flip. -/
set_option linter.unusedVariables false
namespace Go.Proofs.YtedpnjbbcfiheaaGreatDoor
open Go.RowKit Go.Sc

abbrev TS : Nat := 25

theorem Below_any (x n : Int) (w : World) (_h0 : -9223372036854775808 ≤ x) (_h1 : x ≤ 9223372036854775807) (hn : n ≤ 4611686018427387904) :
    Calls Tryz.prog 102 #[.int .i64 x, .int .i64 n] w fun e w' => e = .returned (.int .i64 (belowN x n)) ∧ w = w' := by
  by_cases h : n < 1
  · go_enter Tryz.func102, Tryz.ntmps102
    go_wp2
    go_ret
    exact ⟨by simp [belowN, h], rfl⟩
  · have a1 := Int.tmod_lt_of_pos x (show 0 < n by omega)
    have a2 := Int.lt_tmod_of_pos x (show 0 < n by omega)
    have a3 := tmod_emod x n (by omega)
    have A3 := Lib.hid a3
    clear a3
    go_enter Tryz.func102, Tryz.ntmps102
    go_wp2
    · have hx : x.tmod n < 0 := by assumption
      go_ret
      refine ⟨?_, rfl⟩
      refine ret_int ?_
      have := A3.out
      rw [if_pos hx] at this
      rw [belowN, if_neg (by omega), this]
    · have hx : ¬ x.tmod n < 0 := by omega
      go_ret
      refine ⟨?_, rfl⟩
      refine ret_int ?_
      have := A3.out
      rw [if_neg hx] at this
      rw [belowN, if_neg (by omega), this]

theorem Next_any (g : Nat) (xs : List Int) (a n : Int) (w : World) (hs : Strm TS w g xs a) (ha : a < 1000000000) (hn1 : 1 ≤ n) (hn : n ≤ 4611686018427387904) :
    Calls Tryz.prog 52 #[.pointer (some ⟨g, 0, none⟩), .int .i64 n] w fun e w' => e = .returned (.int .i64 (nx xs a n)) ∧ Strm TS w' g xs (a + 1) ∧ w.grownBy w' (some g) := by
  have hfin : Strm TS (w.setCell ⟨g, 1, none⟩ (.int .i64 (a + 1))) g xs (a + 1) ∧ w.grownBy (w.setCell ⟨g, 1, none⟩ (.int .i64 (a + 1))) (some g) :=
    ⟨hs.step (by have := hs.lo; omega) (by omega), gb_setCell (gb_refl w _) (.inl rfl) _⟩
  obtain ⟨⟨A, c, hb, hc⟩, h2, h3, h4, h5⟩ := hs
  have hg : w.cell? ⟨g, 0, none⟩ = some (.slice A xs.length c) := by simp [World.cell?, hb]
  have hg1 : w.cell? ⟨g, 1, none⟩ = some (.int .i64 a) := by simp [World.cell?, hb]
  have hfr : w.frozen? ⟨g, 1, none⟩ = false := by simp [World.frozen?, hb]
  clear hb
  generalize hlen : xs.length = len at *
  have HL := Lib.hid hlen
  clear hlen
  have HF := Lib.hid hfin
  clear hfin
  by_cases hl : len = 0
  · have HX : Hid (nx xs a n = belowN ((a + 1) * 7919) n) := by simp [Hid, nx, HL.out, hl]
    clear h3 hc
    obtain rfl : len = 0 := hl
    go_enter Tryz.func52, Tryz.ntmps52
    go_wp2_with fail
    refine (Below_any _ _ _ (by omega) (by omega) (by omega)).mono ?_
    rintro e w' ⟨rfl, rfl⟩
    go_wp2
    go_ret
    exact ⟨ret_int HX.out.symm, HF.out⟩
  · have hl0 : ((len : Int) == 0) = false := by simp [hl]
    have hpos : (1 : Int) ≤ len := by omega
    obtain ⟨b, off, rfl, hne, hcell⟩ := hc (by omega)
    have q0 : 0 ≤ a % (len : Int) := Int.emod_nonneg _ (fun e => by rw [e] at hpos; exact absurd hpos (by decide))
    have q1 : a % (len : Int) < len := Int.emod_lt_of_pos _ (Int.lt_of_lt_of_le (by decide) hpos)
    obtain ⟨r0, r1⟩ := round_bd a len h4 h5 hpos
    have d0 : 0 ≤ a / (len : Int) := Int.ediv_nonneg h4 (Int.le_trans (by decide) hpos)
    have d1 : a / (len : Int) ≤ 1000000000 := Int.le_trans (Int.ediv_le_self _ h4) h5
    obtain ⟨x, hx⟩ : ∃ x, x = xs.getD (a % (len : Int)).toNat 0 := ⟨_, rfl⟩
    have hc1 : ∀ u, (w.setCell ⟨g, 1, none⟩ u).cell? ⟨b, off + (a % (len : Int)).toNat, none⟩ = some (.int .i64 x) := fun u => by
      rw [hx]; exact (World.cell?_of_block (w := w) (Below.heap_setCell _ _ _ _ (by show b ≠ g; omega))).trans (hcell _ (by omega))
    have hw : -9223372036854775808 ≤ x ∧ x ≤ 9223372036854775807 := by
      have hm : (a % (len : Int)).toNat < xs.length := by rw [HL.out]; omega
      have : xs.getD (a % (len : Int)).toNat 0 = xs[(a % (len : Int)).toNat] := by simp [List.getD_eq_getElem?_getD, hm]
      rw [hx, this]
      exact h3 _ (List.getElem_mem _)
    obtain ⟨hw0, hw1⟩ := hw
    have HX : Hid (nx xs a n = belowN (belowN x 1073741824 + a / (len : Int) * (7919 + a % (len : Int))) n) := by
      show nx xs a n = _
      unfold nx
      rw [HL.out, if_neg hl, ← hx]
    clear hx h3 hc hcell
    go_enter Tryz.func52, Tryz.ntmps52
    go_wp2_with fail
    go_quiet (fail)
    go_wp2_with fail
    go_quiet (fail)
    go_wp2_with fail
    refine (Below_any _ _ _ (by omega) (by omega) (by omega)).mono ?_
    rintro e w' ⟨rfl, rfl⟩
    have b0 := belowN_lo x 1073741824
    have b1 := belowN_lt x 1073741824 (by omega)
    generalize hbb : belowN x 1073741824 = y at *
    have HB := Lib.hid hbb
    clear hbb
    go_wp2_with fail
    refine (Below_any _ _ _ (by omega) (by omega) (by omega)).mono ?_
    rintro e w' ⟨rfl, rfl⟩
    go_wp2
    go_ret
    exact ⟨ret_int HX.out.symm, (HF.out.1).drewN _, gb_drewN HF.out.2 _⟩
end Go.Proofs.YtedpnjbbcfiheaaGreatDoor

/- Walks of the stream's methods: Range, Flip, Pick, Some, Odd. -/
set_option linter.unusedVariables false
namespace Go.Proofs.YtedpnjbbcfiheaaGreatDoor
open Go.RowKit Go.Sc

def rngN (xs : List Int) (a lo hi : Int) : Int := if hi < lo then lo else lo + nx xs a (hi - lo + 1)
def rngA (a lo hi : Int) : Int := if hi < lo then a else a + 1

theorem Range_any (g : Nat) (xs : List Int) (a lo hi : Int) (w : World) (hs : Strm TS w g xs a) (ha : a < 1000000000) (h0 : -1000000000 ≤ lo) (h0' : lo ≤ 1000000000) (h1 : lo ≤ hi) (h2 : hi ≤ 2000000000) :
    Calls Tryz.prog 23 #[.pointer (some ⟨g, 0, none⟩), .int .i64 lo, .int .i64 hi] w fun e w' => e = .returned (.int .i64 (lo + nx xs a (hi - lo + 1))) ∧ Strm TS w' g xs (a + 1) ∧ w.grownBy w' (some g) := by
  have n0 := nx_lo xs a (hi - lo + 1)
  have n1 := nx_lt xs a (hi - lo + 1) (by omega)
  go_enter Tryz.func23, Tryz.ntmps23
  go_wp2_with fail
  refine (Next_any g xs a _ _ hs ha (by omega) (by omega)).mono ?_
  rintro e w' ⟨rfl, h⟩
  go_wp2
  go_ret
  exact ⟨rfl, h⟩

theorem Flip_any (g : Nat) (xs : List Int) (a n : Int) (w : World) (hs : Strm TS w g xs a) (ha : a < 1000000000) (h0 : 1 ≤ n) (h2 : n ≤ 1000000000) :
    Calls Tryz.prog 22 #[.pointer (some ⟨g, 0, none⟩), .int .i64 n] w fun e w' => e = .returned (.bool (nx xs a n == 0)) ∧ Strm TS w' g xs (a + 1) ∧ w.grownBy w' (some g) := by
  have n0 := nx_lo xs a n
  have n1 := nx_lt xs a n (by omega)
  go_enter Tryz.func22, Tryz.ntmps22
  go_wp2_with fail
  refine (Next_any g xs a _ _ hs ha (by omega) (by omega)).mono ?_
  rintro e w' ⟨rfl, h⟩
  go_wp2
  go_ret
  exact ⟨rfl, h⟩

/-- l is a slice of numbers in blocks other than the stream's. -/
theorem Pick_any (g : Nat) (xs : List Int) (a : Int) (v : Value) (n : Nat) (l : List Int) (w : World) (hs : Strm TS w g xs a) (ha : a < 1000000000) (h0 : 1 ≤ n) (h2 : n ≤ 1000) (hr : Rd w 1 v n (l.map (.int .i64)))
    (hne : ∀ A m c, v = .slice (some A) m c → A.block ≠ g) :
    Calls Tryz.prog 20 #[.pointer (some ⟨g, 0, none⟩), v] w fun e w' => e = .returned (.int .i64 (l.getD (nx xs a n).toNat 0)) ∧ Strm TS w' g xs (a + 1) ∧ w.grownBy w' (some g) := by
  have n0 := nx_lo xs a n
  have n1 := nx_lt xs a n (by omega)
  obtain ⟨A, c, rfl, h3, h4, h5, h6⟩ := hr
  obtain ⟨b, off, rfl, hc⟩ := h6 (by omega)
  have hne' := hne _ _ _ rfl
  have hl : l.length = n := by simpa using h5
  have hx : w.cell? ⟨b, off + (nx xs a n).toNat, none⟩ = some (.int .i64 (l.getD (nx xs a n).toNat 0)) := hc _ _ (by
    have : (nx xs a n).toNat < l.length := by omega
    simp [List.getElem?_eq_getElem this, List.getD_eq_getElem?_getD])
  have HN := Lib.hid hl
  clear hl h5 h6 hc hne
  go_enter Tryz.func20, Tryz.ntmps20
  go_wp2_with fail
  refine (Next_any g xs a _ _ hs ha (by omega) (by omega)).mono ?_
  rintro e w' ⟨rfl, h, hg⟩
  have hx' := hg.cell hx (fun e => hne' (by simpa using e))
  clear hx
  go_wp2
  go_ret
  exact ⟨rfl, h, hg⟩

theorem Some_any (g : Nat) (xs : List Int) (a : Int) (v : Value) (n : Nat) (l : List ByteArray) (w : World) (hs : Strm TS w g xs a) (ha : a < 1000000000) (h0 : 1 ≤ n) (h2 : n ≤ 1000) (hr : Rd w 1 v n (l.map .string))
    (hne : ∀ A m c, v = .slice (some A) m c → A.block ≠ g) :
    Calls Tryz.prog 51 #[.pointer (some ⟨g, 0, none⟩), v] w fun e w' => e = .returned (.string (l.getD (nx xs a n).toNat ByteArray.empty)) ∧ Strm TS w' g xs (a + 1) ∧ w.grownBy w' (some g) := by
  have n0 := nx_lo xs a n
  have n1 := nx_lt xs a n (by omega)
  obtain ⟨A, c, rfl, h3, h4, h5, h6⟩ := hr
  obtain ⟨b, off, rfl, hc⟩ := h6 (by omega)
  have hne' := hne _ _ _ rfl
  have hl : l.length = n := by simpa using h5
  have hx : w.cell? ⟨b, off + (nx xs a n).toNat, none⟩ = some (.string (l.getD (nx xs a n).toNat ByteArray.empty)) := hc _ _ (by
    have : (nx xs a n).toNat < l.length := by omega
    simp [List.getElem?_eq_getElem this, List.getD_eq_getElem?_getD])
  have HN := Lib.hid hl
  clear hl h5 h6 hc hne
  go_enter Tryz.func51, Tryz.ntmps51
  go_wp2_with fail
  refine (Next_any g xs a _ _ hs ha (by omega) (by omega)).mono ?_
  rintro e w' ⟨rfl, h, hg⟩
  have hx' := hg.cell hx (fun e => hne' (by simpa using e))
  clear hx
  go_wp2
  go_ret
  exact ⟨rfl, h, hg⟩

end Go.Proofs.YtedpnjbbcfiheaaGreatDoor

/- Walk of Order. -/
set_option linter.unusedVariables false
namespace Go.Proofs.YtedpnjbbcfiheaaGreatDoor
open Go.RowKit Go.Sc

def swp (l : List Int) (i k : Nat) : List Int := (l.set i (l[k]?.getD 0)).set k (l[i]?.getD 0)
def ordL (xs : List Int) : Nat → Int → List Int → List Int
  | 0, _, out => out
  | i + 1, a, out => ordL xs i (a + 1) (swp out (i + 1) (nx xs a (i + 2)).toNat)
def iota (n : Nat) : List Int := (List.range n).map Int.ofNat
def ordN (xs : List Int) (a : Int) (n : Nat) : List Int := ordL xs (n - 1) a (iota n)
theorem iota_succ (n : Nat) : iota (n + 1) = iota n ++ [(n : Int)] := by simp only [iota, List.range_succ, List.map_append]; rfl
theorem iota_len (n : Nat) : (iota n).length = n := by simp [iota]
theorem swp_len (l : List Int) (i k : Nat) : (swp l i k).length = l.length := by simp [swp]

theorem info3 : (Tryz.prog.info? 3).map (fun i => (i.zero, i.size, i.bytes)) = some (some (.int .i64 0), 1, 8) := by kernel_rfl

set_option maxRecDepth 100000 in
set_option maxHeartbeats 1000000 in
theorem Order_any (g : Nat) (xs : List Int) (a : Int) (n : Nat) (w : World) (hs : Strm TS w g xs a) (ha : a + n < 1000000000) (h1 : 1 ≤ n) (h2 : n ≤ 1000) :
    Calls Tryz.prog 109 #[.pointer (some ⟨g, 0, none⟩), .int .i64 n] w fun e w' => ∃ v, e = .returned v ∧ w'.ownsRow w.heap.size 3 1 v n ((ordN xs a n).map (.int .i64)) ∧ Strm TS w' g xs (a + n - 1) ∧ w.grownBy w' (some g) := by
  obtain ⟨i0, hi, hz0, hz1, hz2⟩ := info_parts info3
  have hgl := hs.lt
  go_enter Tryz.func109, Tryz.ntmps109
  go_wp2
  go_loopw [5, 10] (fun v i wr => ∃ k : Nat, k ≤ n ∧ i = .int .i64 k ∧ wr.ownsRow w.heap.size 3 1 v k ((iota k).map (.int .i64)) ∧ Below w.heap.size w wr) (fun _ i _ => n - (intOf i).toNat)
  case atStart => exact ⟨0, by omega, rfl, World.ownsRow_nil _ _ _ _, Below.refl _ _⟩
  case round =>
    obtain ⟨k, hk, rfl, hown, hbel⟩ := hrel
    by_cases hlt : k < n
    · have hsz := hbel.size
      go_wp2_with (at_builtin; go_loud (refine app w.heap.size rfl _ _ 22 3 (.int .i64 0) 1 8 rfl Tryz.underlying22 info3 rfl (by decide) (by decide) _ _ _ hown _ 1 rfl rfl rfl (by simp [Value.oneCell']) hsz (by omega) ?_; intro v1 w1 hown1 hg1 hat))
      go_roundw
      case rel => exact ⟨k + 1, by omega, by go_num, by rw [iota_succ]; simpa using hown1, hbel.grown hg1 hsz (fun j hj => (own_lt hown hj).1)⟩
      case measure => simp [intOf]; omega
    · obtain rfl : k = n := by omega
      have hgb := gb_of_below hbel (some g)
      have hst := hs.below hbel
      obtain ⟨g1, cap, hv, hgb1, hglt⟩ := hown.form (by omega)
      obtain rfl := hv
      have hgg : g ≠ g1 := by omega
      have HE : Hid (ordL xs (k - 1) a (iota k) = ordN xs a k) := rfl
      have HL : Hid ((iota k).length = k) := iota_len k
      generalize iota k = l0 at *
      clear hbel
      go_wp2
      go_loopw [7] (fun i wr2 => ∃ (m : Nat) (b : Int) (l : List Int), m < k ∧ i = .int .i64 m ∧ Hid (ordL xs m b l = ordN xs a k ∧ b + m = a + k - 1) ∧ a ≤ b ∧ b + m < 1000000000 ∧ wr2.ownsRow w.heap.size 3 1 (.slice (some ⟨g1, 0, none⟩) k cap) k (l.map (.int .i64)) ∧ Strm TS wr2 g xs b ∧ w.grownBy wr2 (some g)) (fun i _ => (intOf i).toNat)
      case atStart => exact ⟨k - 1, a, l0, by omega, by go_num, ⟨HE.out, by omega⟩, by omega, by omega, hown, hst, hgb⟩
      case round =>
        obtain ⟨m, b, l, hm, rfl, HM, hab, hbm, hown2, hst2, hgb2⟩ := hrel
        clear hown hst hgb HE
        by_cases hm0 : 0 < m
        · have n0 := nx_lo xs b (m + 1)
          have n1 := nx_lt xs b (m + 1) (by omega)
          go_wp2_with (go_at_call 52; refine (Next_any g xs b _ _ hst2 (by omega) (by omega) (by omega)).mono ?_; rintro e w3 ⟨rfl, hst3, hg3⟩)
          have hown3 := own_grown hown2 hg3 (by intro j hj; simp at hj; subst hj; simp [Value.ownBlock]; omega)
          clear hown2 hst2
          have i1 := own_cell_int hown3 m (by omega)
          have i2 := own_cell_int hown3 (nx xs b (m + 1)).toNat (by omega)
          have f1 := fun j => hown3.frozenAt j
          have o1 := own_set_int hown3 m (l[(nx xs b (m + 1)).toNat]?.getD 0)
          have i3 := own_cell_int o1 (nx xs b (m + 1)).toNat (by omega)
          have o2 := own_set_int o1 (nx xs b (m + 1)).toNat (l[m]?.getD 0)
          have hg4 : w.grownBy ((w3.setCell ⟨g1, m, none⟩ (.int .i64 (l[(nx xs b (m + 1)).toNat]?.getD 0))).setCell ⟨g1, (nx xs b (m + 1)).toNat, none⟩ (.int .i64 (l[m]?.getD 0))) (some g) :=
            gb_setCell (gb_setCell (World.grownBy.trans' hgb2 hg3) (.inr hgb1) _) (.inr hgb1) _
          have hst4 := (hst3.far (p := ⟨g1, m, none⟩) (by show g < g1; omega) (.int .i64 (l[(nx xs b (m + 1)).toNat]?.getD 0))).far (p := ⟨g1, (nx xs b (m + 1)).toNat, none⟩) (by show g < g1; omega) (.int .i64 (l[m]?.getD 0))
          go_region
          obtain ⟨m', rfl⟩ : ∃ m', m = m' + 1 := ⟨m - 1, by omega⟩
          have HM' : Hid (ordL xs m' (b + 1) (swp l (m' + 1) (nx xs b ((m' + 1 : Nat) + 1)).toNat) = ordN xs a k ∧ b + 1 + m' = a + k - 1) := by
            obtain ⟨e1, e2⟩ := HM.out
            refine ⟨?_, by omega⟩
            rw [← e1]
            show _ = ordL xs m' (b + 1) (swp l (m' + 1) (nx xs b ((m' : Int) + 2)).toNat)
            rw [show ((m' + 1 : Nat) : Int) + 1 = (m' : Int) + 2 by omega]
          go_wp2
          go_roundw
          case rel => exact ⟨m', b + 1, _, by omega, by go_num, HM', by omega, by omega, o2, hst4.drewN 1, gb_drewN hg4 1⟩
          case measure => simp [intOf]
        · obtain rfl : m = 0 := by omega
          go_wp2
          go_ret
          obtain ⟨h1, h2⟩ := HM.out
          refine ⟨_, rfl, ?_, ?_, hgb2⟩
          · rw [← h1]; exact hown2
          · rw [show a + (k : Int) - 1 = b by omega]; exact hst2
end Go.Proofs.YtedpnjbbcfiheaaGreatDoor

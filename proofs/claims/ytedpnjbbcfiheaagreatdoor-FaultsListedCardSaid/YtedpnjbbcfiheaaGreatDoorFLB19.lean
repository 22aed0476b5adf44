import Derived.Test.YtedpnjbbcfiheaaGreatDoorFLB05
import Derived.Test.YtedpnjbbcfiheaaGreatDoorFLB06
import Derived.Maps.OwnOps
import Derived.Maps.OwnSet
import Derived.Maps.Views
set_option linter.unusedSimpArgs false
set_option linter.unusedSectionVars false
set_option linter.unusedVariables false
/- Memory words: groups of numbers, the map from keys to group numbers. -/
set_option linter.unusedVariables false
namespace Go.Proofs.YtedpnjbbcfiheaaGreatDoor
open Go.RowKit Go.Sc
theorem info_ints2 : (Tryz.prog.info? 22).map (fun i => (i.zero, i.size, i.bytes)) = some (some (.slice none 0 0), 1, 24) := by kernel_rfl
/-- a row of the call's own of groups, each in a row of the call's own -/
def OwnG (w : World) (base : Nat) (v : Value) (css : List (List Int)) : Prop :=
  ∃ us : List Value, us.length = css.length ∧ w.ownsRow base 22 1 v css.length us ∧
    (∀ (j : Nat) (c : List Int) (u : Value), css[j]? = some c → us[j]? = some u → w.ownsRow base 3 1 u c.length (c.map (.int .i64)) ∧ ∀ g, u.ownBlock = some g → v.ownBlock ≠ some g) ∧
    ∀ (i j : Nat) (u u' : Value) (g : Nat), us[i]? = some u → us[j]? = some u' → i ≠ j → u.ownBlock = some g → u'.ownBlock ≠ some g
theorem OwnG.nil (w : World) (base : Nat) : OwnG w base (.slice none 0 0) [] := ⟨[], rfl, World.ownsRow_nil _ _ _ _, fun j f u h => by simp at h, fun i j u u' g h => by simp at h⟩
theorem OwnG.rdl {w : World} {base : Nat} {v : Value} {css : List (List Int)} (h : OwnG w base v css) : RdL w v css := by
  obtain ⟨us, hul, hown, hels, _⟩ := h
  obtain ⟨A, c, rfl, h1, h2, h3, h4⟩ := Rd.of_own hown
  refine ⟨A, c, rfl, h1, h2, fun hn => ?_⟩
  obtain ⟨b, off, rfl, hc⟩ := h4 hn
  refine ⟨b, off, rfl, fun j cl hj => ?_⟩
  have hjl : j < css.length := (List.getElem?_eq_some_iff.1 hj).1
  obtain ⟨u, hu⟩ : ∃ u, us[j]? = some u := ⟨us[j]'(by omega), List.getElem?_eq_getElem _⟩
  exact ⟨u, hc _ _ hu, Rd.of_own (hels j cl u hj hu).1⟩
theorem OwnG.grown {w w1 : World} {base : Nat} {v : Value} {css : List (List Int)} (h : OwnG w base v css) {row : Option Nat} (hg : w.grownBy w1 row) (hr : ∀ k, row = some k → k < base ∨ w.heap.size ≤ k) : OwnG w1 base v css := by
  obtain ⟨us, hul, hown, hels, hd⟩ := h
  refine ⟨us, hul, own_grown hown hg fun k hk e => ?_, fun j f u h1 h2 => ⟨own_grown (hels j f u h1 h2).1 hg fun k hk e => ?_, (hels j f u h1 h2).2⟩, hd⟩
  · have := own_lt hown e; rcases hr k hk with h | h <;> omega
  · have := own_lt (hels j f u h1 h2).1 e; rcases hr k hk with h | h <;> omega
theorem OwnG.alloc {w : World} {base : Nat} {v : Value} {css : List (List Int)} (h : OwnG w base v css) (o : Obj) : OwnG (w.alloc o) base v css := h.grown (World.grownBy_alloc w o none) (fun k hk => by cases hk)
theorem OwnG.drew {w : World} {base : Nat} {v : Value} {css : List (List Int)} (h : OwnG w base v css) : OwnG w.drew base v css := by
  obtain ⟨us, hul, hown, hels, hd⟩ := h
  exact ⟨us, hul, hown.drew, fun j f u h1 h2 => ⟨(hels j f u h1 h2).1.drew, (hels j f u h1 h2).2⟩, hd⟩
theorem OwnG.below {w w1 : World} {base : Nat} {v : Value} {css : List (List Int)} (h : OwnG w base v css) (hb : Below w.heap.size w w1) : OwnG w1 base v css :=
  h.grown (row := none) ⟨hb.os, hb.tape, hb.output, hb.size, fun i hi _ => hb.block i hi⟩ (fun k hk => by cases hk)
theorem OwnG.mono {w : World} {base base' : Nat} {v : Value} {css : List (List Int)} (h : OwnG w base v css) (hb : base' ≤ base) : OwnG w base' v css := by
  obtain ⟨us, hul, hown, hels, hd⟩ := h
  exact ⟨us, hul, own_mono hown hb, fun j f u h1 h2 => ⟨own_mono (hels j f u h1 h2).1 hb, (hels j f u h1 h2).2⟩, hd⟩
/-- one more group, with nothing in it -/
theorem ownG_new {w w1 : World} {base : Nat} {v v1 : Value} {css : List (List Int)} {us : List Value} (hul : us.length = css.length)
    (hown : w.ownsRow base 22 1 v css.length us)
    (hels : ∀ (j : Nat) (c : List Int) (u : Value), css[j]? = some c → us[j]? = some u → w.ownsRow base 3 1 u c.length (c.map (.int .i64)) ∧ ∀ g, u.ownBlock = some g → v.ownBlock ≠ some g)
    (hd : ∀ (i j : Nat) (u u' : Value) (g : Nat), us[i]? = some u → us[j]? = some u' → i ≠ j → u.ownBlock = some g → u'.ownBlock ≠ some g)
    (hg : w.grownBy w1 v.ownBlock) (hat : v1.ownBlock = v.ownBlock ∨ ∃ b, v1.ownBlock = some b ∧ w.heap.size ≤ b)
    (hown1 : w1.ownsRow base 22 1 v1 (css.length + 1) (us ++ [.slice none 0 0])) : OwnG w1 base v1 (css ++ [[]]) := by
  refine ⟨us ++ [.slice none 0 0], by simp [hul], by rw [List.length_append]; exact hown1, fun j c u h1 h2 => ?_, fun i j u u' g h1 h2 hij e => ?_⟩
  · rcases Nat.lt_or_ge j css.length with hj | hj
    · rw [List.getElem?_append_left hj] at h1
      rw [List.getElem?_append_left (by omega)] at h2
      obtain ⟨ho, hne⟩ := hels j c u h1 h2
      refine ⟨own_grown ho hg fun k hk e => hne k e hk, fun g hgu e => ?_⟩
      rcases hat with hat | ⟨b, hat, hb⟩
      · exact hne g hgu (by rw [← hat]; exact e)
      · rw [hat] at e
        injection e with e
        have := (own_lt ho hgu).2
        omega
    · have hj2 : j = css.length := by
        have := (List.getElem?_eq_some_iff.1 h1).1
        simp at this; omega
      subst hj2
      rw [List.getElem?_append_right (Nat.le_refl _), Nat.sub_self] at h1
      rw [List.getElem?_append_right (by omega), hul, Nat.sub_self] at h2
      simp at h1 h2
      subst h1; subst h2
      exact ⟨World.ownsRow_nil _ _ _ _, fun g h => by simp [Value.ownBlock] at h⟩
  · have hi : i < us.length := by
      rcases Nat.lt_or_ge i us.length with hi | hi
      · exact hi
      · have : i = us.length := by
          have := (List.getElem?_eq_some_iff.1 h1).1
          simp at this; omega
        subst this
        simp at h1
        subst h1
        simp [Value.ownBlock] at e
    rw [List.getElem?_append_left hi] at h1
    rcases Nat.lt_or_ge j us.length with hj | hj
    · rw [List.getElem?_append_left hj] at h2
      exact hd i j u u' g h1 h2 hij e
    · have : j = us.length := by
        have := (List.getElem?_eq_some_iff.1 h2).1
        simp at this; omega
      subst this
      simp at h2
      subst h2
      simp [Value.ownBlock]
/-- one more number in group k -/
theorem ownG_push {w w1 : World} {base gv cap n : Nat} {css : List (List Int)} {us : List Value} {k : Nat} {c : List Int} {u u1 : Value} {x : Int} (hul : us.length = css.length)
    (hown : w.ownsRow base 22 1 (.slice (some ⟨gv, 0, none⟩) n cap) css.length us)
    (hels : ∀ (j : Nat) (c : List Int) (u : Value), css[j]? = some c → us[j]? = some u → w.ownsRow base 3 1 u c.length (c.map (.int .i64)) ∧ ∀ g, u.ownBlock = some g → (Value.slice (some ⟨gv, 0, none⟩) n cap).ownBlock ≠ some g)
    (hd : ∀ (i j : Nat) (u u' : Value) (g : Nat), us[i]? = some u → us[j]? = some u' → i ≠ j → u.ownBlock = some g → u'.ownBlock ≠ some g)
    (hc : css[k]? = some c) (hu : us[k]? = some u)
    (hg : w.grownBy w1 u.ownBlock) (hat : u1.ownBlock = u.ownBlock ∨ ∃ b, u1.ownBlock = some b ∧ w.heap.size ≤ b)
    (hown1 : w1.ownsRow base 3 1 u1 (c.length + 1) ((c ++ [x]).map (.int .i64))) :
    OwnG (w1.setCell ⟨gv, k, none⟩ u1) base (.slice (some ⟨gv, 0, none⟩) n cap) (css.set k (c ++ [x])) := by
  have hk : k < css.length := (List.getElem?_eq_some_iff.1 hc).1
  obtain rfl : n = css.length := by
    rcases hown.2 with ⟨h, _⟩ | ⟨g, cap', cur, h, _⟩
    · simp at h
    · simp at h; exact h.2.1
  have hbv : (Value.slice (some ⟨gv, 0, none⟩) css.length cap).ownBlock = some gv := rfl
  have hv1 : w1.ownsRow base 22 1 (.slice (some ⟨gv, 0, none⟩) css.length cap) css.length us := own_grown hown hg fun k' hk' => by
    have := (hels k c u hc hu).2 k' hk'; exact this
  obtain ⟨hs, hgs⟩ := hv1.stored k u1
  have hlv := (own_lt hown hbv).2
  have hne1 : ∀ g, u1.ownBlock = some g → (Value.slice (some ⟨gv, 0, none⟩) css.length cap).ownBlock ≠ some g := fun g hg1 e => by
    rw [hbv] at e
    injection e with e
    subst e
    rcases hat with hat | ⟨b, hat, hb⟩
    · exact (hels k c u hc hu).2 gv (by rw [← hat]; exact hg1) hbv
    · rw [hat] at hg1; injection hg1 with hg1; omega
  refine ⟨us.set k u1, by simp [hul], by rw [List.length_set]; exact hs, fun j c' u' h1 h2 => ?_, fun i j a b g h1 h2 hij e => ?_⟩
  · by_cases hj : k = j
    · subst hj
      rw [List.getElem?_set_self hk] at h1
      rw [List.getElem?_set_self (by omega)] at h2
      injection h1 with h1
      injection h2 with h2
      subst h1; subst h2
      refine ⟨?_, hne1⟩
      have := own_grown hown1 hgs fun k' hk' e => hne1 k' e (by rw [hbv]; exact hk')
      simpa using this
    · rw [List.getElem?_set_ne hj] at h1 h2
      obtain ⟨ho, hne⟩ := hels j c' u' h1 h2
      have ho1 := own_grown ho hg fun k' hk' e => hd k j u u' k' hu h2 hj hk' e
      exact ⟨own_grown ho1 hgs fun k' hk' e => hne k' e (by rw [hbv]; exact hk'), hne⟩
  · have old : ∀ j' b', us[j']? = some b' → j' ≠ k → ∀ g, u1.ownBlock = some g → b'.ownBlock ≠ some g := fun j' b' hb' hj' g hg1 e' => by
      rcases hat with hat | ⟨b, hat, hb⟩
      · exact hd k j' u b' g hu hb' (Ne.symm hj') (by rw [← hat]; exact hg1) e'
      · rw [hat] at hg1
        injection hg1 with hg1
        have hjl : j' < css.length := by have := (List.getElem?_eq_some_iff.1 hb').1; omega
        have := (own_lt (hels j' (css[j']'hjl) b' (List.getElem?_eq_getElem _) hb').1 e').2
        omega
    by_cases hi : k = i
    · subst hi
      rw [List.getElem?_set_self (by omega)] at h1
      injection h1 with h1
      subst h1
      rw [List.getElem?_set_ne hij] at h2
      exact old j b h2 (Ne.symm hij) g e
    · rw [List.getElem?_set_ne hi] at h1
      by_cases hj : k = j
      · subst hj
        rw [List.getElem?_set_self (by omega)] at h2
        injection h2 with h2
        subst h2
        exact fun e' => old i a h1 (Ne.symm hi) g e' e
      · rw [List.getElem?_set_ne hj] at h2
        exact hd i j a b g h1 h2 hij e
/-! ### the map from keys to numbers -/
/-- block b is a map that gives each key of K its place in K -/
def MapK (w : World) (b : Nat) (K : List (List UInt8)) : Prop :=
  ∃ D : DataW Unit, w.ownsMap Tryz.prog 9 (plainElem Tryz.prog 3) b K.length D ∧ Maps.IsMap D ∧
    (∀ s, Maps.has D (.string s) = decide (s ∈ K)) ∧ ∀ s, s ∈ K → D.atKey (.string s) (.lit (.int .i64 0)) = .lit (.int .i64 (K.idxOf s : Nat))
theorem MapK.kept {w w' : World} {b : Nat} {K : List (List UInt8)} {row : Option Nat} (h : MapK w b K) (hg : w.grownBy w' row) (hne : some b ≠ row) : MapK w' b K := by
  obtain ⟨D, h1, h2⟩ := h
  exact ⟨D, h1.kept hg hne, h2⟩
theorem MapK.alloc {w : World} {b : Nat} {K : List (List UInt8)} (h : MapK w b K) (o : Obj) : MapK (w.alloc o) b K := h.kept (World.grownBy_alloc w o none) (by simp)
theorem MapK.drew {w : World} {b : Nat} {K : List (List UInt8)} (h : MapK w b K) : MapK w.drew b K := h
theorem MapK.below {w w1 : World} {b : Nat} {K : List (List UInt8)} (h : MapK w b K) (hb : Below w.heap.size w w1) : MapK w1 b K :=
  h.kept (row := none) ⟨hb.os, hb.tape, hb.output, hb.size, fun i hi _ => hb.block i hi⟩ (by simp)
theorem MapK.lt {w : World} {b : Nat} {K : List (List UInt8)} (h : MapK w b K) : b < w.heap.size := by
  obtain ⟨D, h1, h2⟩ := h
  exact h1.lt
theorem MapK.made (w : World) : MapK (w.alloc (.map #[] 0)) w.heap.size [] :=
  ⟨.map [], World.ownsMap_made _ _ _ _, Maps.isMap_empty, fun s => by simp [Maps.has], fun s h => by simp at h⟩
theorem lit_str_ne {s t : List UInt8} (h : s ≠ t) : (Lit.string s) ≠ Lit.string t := fun e => h (by injection e)
theorem lawS : Go.Maps.Keyed Tryz.prog 9 := Go.Maps.string_keyed Tryz.underlying9
theorem zeroI (w : World) : (zeroValue 3).run Tryz.prog w = .ok (.int .i64 0) w := by kernel_rfl
theorem key_lit (s : List UInt8) : WideAt.IsKeyLit (.string s) := by simp [WideAt.IsKeyLit]
theorem keyOfS (s : List UInt8) (hs : s.length ≤ maxLen) : keyOf Tryz.prog 9 (.string ⟨s.toArray⟩) = some (.string s) := by
  have := WideMaps.keyOf_string_mk (P := Tryz.prog) Tryz.underlying9 (s := ⟨s.toArray⟩) (by simpa [ByteArray.size] using hs)
  simpa using this
section
variable {ops : Array Oper} {rest : List Oper} {o : Oper} {a : Act} {Q : Exit → Act → World → Prop}
/-- n, ok := m[s] -/
theorem look_map (w : World) (hg : o.guard = none) (m x : Operand) (hop : o.op = Op.lookup 94 m x true)
    (b : Nat) (K : List (List UInt8)) (hm : a.eval m = .map (some b)) (hM : MapK w b K) (s : List UInt8) (hx : a.eval x = .string ⟨s.toArray⟩) (hs : s.length ≤ maxLen)
    (h : ∀ (c : Nat) (bk : Bool), Hid (bk = decide (s ∈ K)) → Hid (s ∈ K → c = K.idxOf s) → c < 1000000 → wpList Tryz.prog ops Q rest (a.put o.dst (.tuple #[.int .i64 (c : Int), .bool bk])) w) (hn : K.length < 1000000) :
    wpList Tryz.prog ops Q (o :: rest) a w := by
  obtain ⟨D, h1, h2, h3, h4⟩ := hM
  refine wpList_lookup_own_ok_int w hg m x 94 hop 9 3 .i64 lawS Tryz.underlying94 Tryz.underlying3 (zeroI w) b K.length D hm h1 (.string ⟨s.toArray⟩) (.string s) hx (keyOfS s hs) ?_
  intro c hat hwc
  rw [h3]
  have hc : c = ((if s ∈ K then K.idxOf s else 0 : Nat) : Int) := by
    by_cases hk : s ∈ K
    · rw [if_pos hk]
      rw [h4 s hk] at hat
      simp at hat
      exact hat.symm
    · rw [if_neg hk]
      rw [Maps.atKey_of_not_has (by rw [h3]; simp [hk])] at hat
      simp at hat
      exact hat.symm
  rw [hc]
  refine h _ _ (rfl : decide (s ∈ K) = decide (s ∈ K)) (fun hk => if_pos hk) ?_
  by_cases hk : s ∈ K
  · rw [if_pos hk]
    have := List.idxOf_lt_length_of_mem hk
    omega
  · rw [if_neg hk]; omega
/-- m[s] = len(m) -/
theorem put_map (w : World) (hg : o.guard = none) (m x v : Operand) (hop : o.op = Op.mapUpdate 94 m x v)
    (b : Nat) (K : List (List UInt8)) (hm : a.eval m = .map (some b)) (hM : MapK w b K) (hn : K.length < 1000000) (s : List UInt8) (hx : a.eval x = .string ⟨s.toArray⟩) (hs : s.length ≤ maxLen) (hk : s ∉ K) (hv : a.eval v = .int .i64 K.length)
    (h : ∀ w', MapK w' b (K ++ [s]) → w.grownBy w' (some b) → wpList Tryz.prog ops Q rest (a.put o.dst undef) w') :
    wpList Tryz.prog ops Q (o :: rest) a w := by
  obtain ⟨D, h1, h2, h3, h4⟩ := hM
  have hwf : (Lit.int .i64 (K.length : Int)).wf = true := by
    simp only [Lit.wf, Bool.and_eq_true, decide_eq_true_eq]
    constructor
    · show (-9223372036854775808 : Int) ≤ _; omega
    · show _ ≤ (9223372036854775807 : Int); omega
  refine wpList_mapUpdate_own w hg m x v 94 hop 9 3 lawS Tryz.underlying94 _ b K.length D hm h1 (by simp only [maxLen]; omega) (.string ⟨s.toArray⟩) (.int .i64 K.length) (.string s) hx hv (keyOfS s hs) (.lit (.int .i64 K.length)) [] (plainElem_int Tryz.underlying3 hwf) ?_
  intro w' g1 g2
  refine h w' ⟨_, by simpa using g1, h2.put _ _, fun t => ?_, fun t ht => ?_⟩ g2
  · by_cases hts : t = s
    · subst hts
      rw [Maps.has_put_same h2 (key_lit _)]; simp
    · rw [Maps.has_put_other (lit_str_ne hts), h3]; simp [hts]
  · by_cases hts : t = s
    · subst hts
      rw [Maps.atKey_put_same h2 (key_lit _), List.idxOf_append, if_neg hk]
      simp
    · have ht' : t ∈ K := by simpa [hts] using ht
      rw [Maps.atKey_put_other (lit_str_ne hts), h4 t ht', List.idxOf_append, if_pos ht']
end
/-! ### grouping -/
def grpStep (st : List (List UInt8) × List (List Int)) (key : List UInt8) (i : Nat) : List (List UInt8) × List (List Int) :=
  if key ∈ st.1 then (st.1, st.2.set (st.1.idxOf key) (st.2[st.1.idxOf key]?.getD [] ++ [(i : Int)])) else (st.1 ++ [key], st.2 ++ [[(i : Int)]])
def grp (key : Nat → List UInt8) : Nat → List (List UInt8) × List (List Int)
  | 0 => ([], [])
  | m + 1 => grpStep (grp key m) (key m) m
theorem grp_len (key : Nat → List UInt8) : ∀ m, (grp key m).1.length = (grp key m).2.length ∧ (grp key m).1.length ≤ m
  | 0 => ⟨rfl, Nat.le_refl _⟩
  | m + 1 => by
    obtain ⟨h1, h2⟩ := grp_len key m
    rw [grp, grpStep]
    split
    · simp [h1]; omega
    · simp [h1]; omega
theorem grp_sub (key : Nat → List UInt8) : ∀ m, ∀ g ∈ (grp key m).2, g.length ≤ m
  | 0, g, h => by simp [grp] at h
  | m + 1, g, h => by
    rw [grp, grpStep] at h
    split at h
    · rcases List.mem_or_eq_of_mem_set h with h | h
      · have := grp_sub key m g h; omega
      · subst h
        rw [List.length_append]
        have : ((grp key m).2[(grp key m).1.idxOf (key m)]?.getD []).length ≤ m := by
          cases e : (grp key m).2[(grp key m).1.idxOf (key m)]? with
          | none => simp
          | some c => exact grp_sub key m c (List.mem_of_getElem? e)
        simp; omega
    · rcases List.mem_append.1 h with h | h
      · have := grp_sub key m g h; omega
      · simp at h; subst h; simp
theorem idxOf_map_inj {f g : Nat → List UInt8} (rs : List Nat) (i : Nat) (h : ∀ r ∈ rs, f r = f i ↔ g r = g i) : (rs.map f).idxOf (f i) = (rs.map g).idxOf (g i) := by
  induction rs with
  | nil => rfl
  | cons r rs ih =>
    rw [List.map_cons, List.map_cons, List.idxOf_cons, List.idxOf_cons, ih (fun r hr => h r (by simp [hr]))]
    have := h r (by simp)
    by_cases e : f r = f i
    · rw [show (f r == f i) = true by simpa using e, show (g r == g i) = true by simpa using this.1 e]
    · rw [show (f r == f i) = false by simpa using e, show (g r == g i) = false by simpa using fun e' => e (this.2 e')]
theorem mem_map_inj {f g : Nat → List UInt8} (rs : List Nat) (i : Nat) (h : ∀ r ∈ rs, f r = f i ↔ g r = g i) : f i ∈ rs.map f ↔ g i ∈ rs.map g := by
  simp only [List.mem_map]
  exact ⟨fun ⟨r, hr, e⟩ => ⟨r, hr, (h r hr).1 e⟩, fun ⟨r, hr, e⟩ => ⟨r, hr, (h r hr).2 e⟩⟩
theorem grp_reps (f g : Nat → List UInt8) : ∀ m, (∀ i j, i < m → j < m → (f i = f j ↔ g i = g j)) → ∃ rs : List Nat, (∀ r ∈ rs, r < m) ∧ (grp f m).1 = rs.map f ∧ (grp g m).1 = rs.map g ∧ (grp f m).2 = (grp g m).2
  | 0, _ => ⟨[], by simp, rfl, rfl, rfl⟩
  | m + 1, h => by
    obtain ⟨rs, h1, h2, h3, h4⟩ := grp_reps f g m (fun i j hi hj => h i j (by omega) (by omega))
    have hh : ∀ r ∈ rs, f r = f m ↔ g r = g m := fun r hr => h r m (by have := h1 r hr; omega) (by omega)
    have hm := mem_map_inj rs m hh
    have hi := idxOf_map_inj rs m hh
    rw [grp, grp, grpStep, grpStep, h2, h3, h4, hi]
    by_cases hk : f m ∈ rs.map f
    · rw [if_pos hk, if_pos (hm.1 hk)]
      exact ⟨rs, fun r hr => by have := h1 r hr; omega, rfl, rfl, rfl⟩
    · rw [if_neg hk, if_neg (fun e => hk (hm.2 e))]
      refine ⟨rs ++ [m], fun r hr => ?_, by simp, by simp, rfl⟩
      rcases List.mem_append.1 hr with hr | hr
      · have := h1 r hr; omega
      · simp at hr; omega
theorem grp_same (f g : Nat → List UInt8) (m : Nat) (h : ∀ i j, i < m → j < m → (f i = f j ↔ g i = g j)) : (grp f m).2 = (grp g m).2 := by
  obtain ⟨_, _, _, _, h4⟩ := grp_reps f g m h
  exact h4
end Go.Proofs.YtedpnjbbcfiheaaGreatDoor

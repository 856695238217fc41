/- Games side by side: what carries over from one to the other. -/
import Derived.Test.YthakebelpnfinaaP4
set_option linter.unusedVariables false
set_option linter.unusedSimpArgs false
namespace Go.Proofs.Ythakebelpnfinaa
open Go.RowKit Go.Sx

/-- Move k of position i: its number and its answers. -/
def mvAt (g : Gm) (i k : Nat) : Option (Int × List Int) := (g.ms[i]?).bind fun m => (m.l[k]?).map fun x => (x.act, x.to)
theorem mvAt_some {g : Gm} {i k : Nat} {a : Int} {to : List Int} : mvAt g i k = some (a, to) ↔ ∃ (hi : i < g.ms.length) (hk : k < g.ms[i].l.length), g.ms[i].l[k].act = a ∧ g.ms[i].l[k].to = to := by
  unfold mvAt
  by_cases hi : i < g.ms.length
  · rw [List.getElem?_eq_getElem hi, Option.bind_some]
    by_cases hk : k < g.ms[i].l.length
    · rw [List.getElem?_eq_getElem hk]; simp [hi, hk]
    · rw [List.getElem?_eq_none (by omega)]; simp [hi, hk]
  · rw [List.getElem?_eq_none (by omega)]; simp [hi]
theorem mvAt_get {g : Gm} {i k : Nat} (hi : i < g.ms.length) (hk : k < g.ms[i].l.length) : mvAt g i k = some (g.ms[i].l[k].act, g.ms[i].l[k].to) := mvAt_some.2 ⟨hi, hk, rfl, rfl⟩
theorem mvAt_row {g : Gm} {i : Nat} (hi : i < g.ms.length) (k : Nat) : mvAt g i k = (g.ms[i].l[k]?).map fun x => (x.act, x.to) := by
  unfold mvAt; rw [List.getElem?_eq_getElem hi]; rfl
/-- What is right of one move. -/
def MvOk (g : Gm) (n i k : Nat) (a : Int) (to : List Int) : Prop := 0 ≤ a ∧ (0 < k → ∃ a' to', mvAt g i (k - 1) = some (a', to') ∧ a' < a) ∧ to ≠ [] ∧ AscP n to
theorem RightP.of {g : Gm} (hl : g.goal.length = g.ms.length) (hm : g.goal.length ≤ 2000000) (h : ∀ i k a to, mvAt g i k = some (a, to) → MvOk g g.goal.length i k a to) : RightP g := by
  refine ⟨hl, hm, fun i hi k hk => ?_⟩
  obtain ⟨h1, h2, h3, h4⟩ := h i k _ _ (mvAt_get hi hk)
  refine ⟨h1, fun h0 => ?_, h3, h4⟩
  obtain ⟨a', to', h5, h6⟩ := h2 h0
  obtain ⟨_, hk', rfl, rfl⟩ := mvAt_some.1 h5
  exact h6
theorem RightP.at {g : Gm} (h : RightP g) {i k : Nat} {a : Int} {to : List Int} (hm : mvAt g i k = some (a, to)) : MvOk g g.goal.length i k a to := by
  obtain ⟨hi, hk, rfl, rfl⟩ := mvAt_some.1 hm
  obtain ⟨h1, h2, h3, h4⟩ := h.mv i hi k hk
  exact ⟨h1, fun h0 => ⟨_, _, mvAt_get hi (by omega), h2 h0⟩, h3, h4⟩
/-- If the moves of the one are met by those of the other, who is won there is won here. -/
theorem win_rel {g h : Gm} (R : Nat → Nat → Prop) (hg : ∀ i i', R i i' → g.goal[i]? = some true → h.goal[i']? = some true)
    (hm : ∀ i i', R i i' → ∀ k a to, mvAt g i k = some (a, to) → ∃ k' a' to', mvAt h i' k' = some (a', to') ∧ ∀ t' ∈ to', ∃ t ∈ to, R t.toNat t'.toNat) : ∀ r i i', R i i' → win g r i → win h r i' := by
  intro r
  induction r with
  | zero => intro i i' hR hw; exact hg i i' hR hw
  | succ r ih =>
    intro i i' hR hw
    rcases hw with hw | ⟨hi, k, hk, hw⟩
    · exact .inl (ih i i' hR hw)
    · obtain ⟨k', a', to', h1, h2⟩ := hm i i' hR k _ _ (mvAt_get hi hk)
      obtain ⟨hi', hk', rfl, rfl⟩ := mvAt_some.1 h1
      refine .inr ⟨hi', k', hk', fun j hj => ?_⟩
      obtain ⟨t, ht, hR'⟩ := h2 _ (List.getElem_mem hj)
      obtain ⟨q, hq, rfl⟩ := List.getElem_of_mem ht
      exact ih _ _ hR' (hw q hq)
theorem win_of {g h : Gm} (n : Nat) (hg : ∀ i, i < n → g.goal[i]? = some true → h.goal[i]? = some true)
    (hm : ∀ i, i < n → ∀ k a to, mvAt g i k = some (a, to) → ∃ k' a' to', mvAt h i k' = some (a', to') ∧ ∀ t' ∈ to', t' ∈ to ∧ t'.toNat < n) (r i : Nat) (hi : i < n) (hw : win g r i) : win h r i := by
  refine win_rel (fun i i' => i = i' ∧ i < n) ?_ ?_ r i i ⟨rfl, hi⟩ hw
  · rintro i _ ⟨rfl, h1⟩ h2; exact hg i h1 h2
  · rintro i _ ⟨rfl, h1⟩ k a to h2
    obtain ⟨k', a', to', h3, h4⟩ := hm i h1 k a to h2
    exact ⟨k', a', to', h3, fun t' ht => ⟨t', (h4 t' ht).1, rfl, (h4 t' ht).2⟩⟩
/-- No rank of a is greater than that of b. -/
def EasyP (a b : List Int) : Prop := a.length = b.length ∧ ∀ (i : Nat) (ha : i < a.length) (hb : i < b.length), 0 ≤ b[i] → 0 ≤ a[i] ∧ a[i] ≤ b[i]
theorem easy_of {g h : Gm} {rk rk' : List Int} (hrk : RanksP g rk) (hrk' : RanksP h rk') (hl : h.goal.length = g.goal.length) (hw : ∀ r i, i < g.goal.length → win g r i → win h r i) : EasyP rk' rk := by
  refine ⟨by rw [hrk.len, hrk'.len, hl], fun i ha hb h0 => ?_⟩
  have hi : i < g.goal.length := by rw [← hrk.len]; exact hb
  rw [← rkO_eq hb] at h0 ⊢
  have h1 := hrk.wins hi h0
  have h2 := hrk'.le (by omega) (hw _ i hi h1)
  rw [← rkO_eq ha]
  omega
/-- A copy of a game. -/
structure CopyP (g h : Gm) : Prop where
  goal : h.goal = g.goal
  len : h.ms.length = g.ms.length
  ll : ∀ (i : Nat) (hi : i < h.ms.length) (hi' : i < g.ms.length), h.ms[i].l.length = g.ms[i].l.length
  mv : ∀ i k, mvAt h i k = mvAt g i k
section
variable {g h : Gm} {m pos : Nat}
theorem CopyP.right (hc : CopyP g h) (hr : RightP g) : RightP h := by
  refine RightP.of (by rw [hc.goal, hc.len]; exact hr.len) (by rw [hc.goal]; exact hr.max) fun i k a to hm => ?_
  rw [hc.mv] at hm
  obtain ⟨h1, h2, h3, h4⟩ := hr.at hm
  exact ⟨h1, fun h0 => by rw [hc.mv]; exact h2 h0, h3, by rw [hc.goal]; exact h4⟩
theorem CopyP.to_len (hc : CopyP g h) (hF : FewP g m) (i : Nat) (hi : i < h.ms.length) (k : Nat) (hk : k < h.ms[i].l.length) : h.ms[i].l[k].to.length ≤ 64 := by
  have h1 := mvAt_get hi hk
  rw [hc.mv] at h1
  obtain ⟨hi', hk', _, he⟩ := mvAt_some.1 h1
  rw [← he]; exact hF.to i hi' k hk'
theorem CopyP.few (hc : CopyP g h) (hF : FewP g m) : FewP h m := by
  refine ⟨by rw [hc.len]; exact hF.ms, by rw [hc.goal]; exact hF.goal, fun i hi => ?_, hc.to_len hF⟩
  rw [hc.ll i hi (by rw [← hc.len]; exact hi)]; exact hF.ml i _
theorem CopyP.few12 (hc : CopyP g h) (hF : Few12 g) : Few12 h := fun i hi => by
  rw [hc.ll i hi (by rw [← hc.len]; exact hi)]; exact hF i _
/-- A game with one more goal. -/
abbrev setG (h : Gm) (pos : Nat) : Gm := { h with goal := h.goal.set pos true }
abbrev setM (h : Gm) (pos : Nat) (x : Ml) : Gm := { h with ms := h.ms.set pos x }
theorem setG_right (hr : RightP h) : RightP (setG h pos) :=
  RightP.of (by simp [hr.len]) (by simp [hr.max]) fun i k a to hm => by
    obtain ⟨h1, h2, h3, h4⟩ := hr.at (show mvAt h i k = _ from hm)
    exact ⟨h1, h2, h3, by simpa using h4⟩
theorem setG_few (hF : FewP h m) : FewP (setG h pos) m := ⟨hF.ms, by simpa using hF.goal, hF.ml, hF.to⟩
theorem mvAt_setM {x : Ml} (hp : pos < h.ms.length) (i k : Nat) : mvAt (setM h pos x) i k = if i = pos then (x.l[k]?).map (fun y => (y.act, y.to)) else mvAt h i k := by
  by_cases hi : i = pos
  · subst hi; simp [mvAt, hp]
  · rw [if_neg hi]; unfold mvAt; rw [List.getElem?_set_ne (Ne.symm hi)]
theorem setM_few {x : Ml} (hp : pos < h.ms.length) (hF : FewP h m) (h1 : x.l.length ≤ 13) (h2 : ∀ (k : Nat) (hk : k < x.l.length), x.l[k].to.length ≤ 64) : FewP (setM h pos x) m := by
  refine ⟨by simpa using hF.ms, hF.goal, fun i hi => ?_, fun i hi k hk => ?_⟩
  · have hi' : i < h.ms.length := by simpa using hi
    simp only [List.getElem_set]
    split
    · exact h1
    · exact hF.ml i hi'
  · have hi' : i < h.ms.length := by simpa using hi
    have hm := mvAt_get hi hk
    rw [mvAt_setM hp] at hm
    by_cases hip : i = pos
    · rw [if_pos hip] at hm
      obtain ⟨y, hy, he⟩ := Option.map_eq_some_iff.1 hm
      obtain ⟨hk', rfl⟩ := List.getElem?_eq_some_iff.1 hy
      simp only [Prod.mk.injEq] at he
      rw [← he.2]; exact h2 k hk'
    · rw [if_neg hip] at hm
      obtain ⟨hi2, hk2, _, he⟩ := mvAt_some.1 hm
      rw [← he]; exact hF.to i hi2 k hk2
theorem setM_right {x : Ml} (hp : pos < h.ms.length) (hr : RightP h) (hx : ∀ (k : Nat) (y : Mv), x.l[k]? = some y → (0 : Int) ≤ y.act ∧ (0 < k → ∃ z, x.l[k - 1]? = some z ∧ z.act < y.act) ∧ y.to ≠ [] ∧ AscP h.goal.length y.to) : RightP (setM h pos x) := by
  refine RightP.of (by simp [hr.len]) hr.max fun i k a to hm => ?_
  rw [mvAt_setM hp] at hm
  by_cases hip : i = pos
  · rw [if_pos hip] at hm
    obtain ⟨y, hy, he⟩ := Option.map_eq_some_iff.1 hm
    simp only [Prod.mk.injEq] at he
    obtain ⟨rfl, rfl⟩ := he
    obtain ⟨h1, h2, h3, h4⟩ := hx k y hy
    refine ⟨h1, fun h0 => ?_, h3, h4⟩
    obtain ⟨z, hz, hlt⟩ := h2 h0
    exact ⟨z.act, z.to, by rw [mvAt_setM hp, if_pos hip, hz]; rfl, hlt⟩
  · rw [if_neg hip] at hm
    obtain ⟨h1, h2, h3, h4⟩ := hr.at hm
    exact ⟨h1, fun h0 => by rw [mvAt_setM hp, if_neg hip]; exact h2 h0, h3, h4⟩
theorem RightP.row (hr : RightP h) (hp : pos < h.ms.length) (k : Nat) (y : Mv) (hy : h.ms[pos].l[k]? = some y) : 0 ≤ y.act ∧ (0 < k → ∃ z, h.ms[pos].l[k - 1]? = some z ∧ z.act < y.act) ∧ y.to ≠ [] ∧ AscP h.goal.length y.to := by
  obtain ⟨hk, rfl⟩ := List.getElem?_eq_some_iff.1 hy
  obtain ⟨h1, h2, h3, h4⟩ := hr.mv pos hp k hk
  exact ⟨h1, fun h0 => ⟨_, List.getElem?_eq_getElem (by omega), h2 h0⟩, h3, h4⟩
/-- who answers is in range -/
theorem RightP.ans (hr : RightP h) {i k : Nat} {a : Int} {to : List Int} (hm : mvAt h i k = some (a, to)) (t : Int) (ht : t ∈ to) : 0 ≤ t ∧ t < h.goal.length := by
  obtain ⟨q, hq, rfl⟩ := List.getElem_of_mem ht
  have := (hr.at hm).2.2.2 q hq
  exact ⟨this.1, this.2.1⟩
end

/-! ### one goal more; one move more; the first move gone; one answer more -/
section
variable {g h : Gm} {m pos : Nat} (hc : CopyP g h) (hr : RightP g)
include hc hr
theorem goal_wins (r i : Nat) (hi : i < g.goal.length) (hw : win g r i) : win (setG h pos) r i := by
  refine win_of g.goal.length (fun i hi h1 => ?_) (fun i hi k a to hm => ⟨k, a, to, ?_, fun t ht => ⟨ht, ?_⟩⟩) r i hi hw
  · show (h.goal.set pos true)[i]? = _
    rw [hc.goal, List.getElem?_set]
    split
    · rename_i he; subst he; simp [hi]
    · exact h1
  · show mvAt h i k = _
    rw [hc.mv]; exact hm
  · have := hr.ans hm t ht; omega
theorem more_wins {y : Mv} {A : Option Addr} {c : Nat} (hp : pos < h.ms.length) (r i : Nat) (hi : i < g.goal.length) (hw : win g r i) : win (setM h pos ⟨A, c, h.ms[pos].l ++ [y]⟩) r i := by
  refine win_of g.goal.length (fun i hi h1 => ?_) (fun i hi k a to hm => ⟨k, a, to, ?_, fun t ht => ⟨ht, ?_⟩⟩) r i hi hw
  · show h.goal[i]? = _
    rw [hc.goal]; exact h1
  · rw [mvAt_setM hp]
    rw [← hc.mv] at hm
    split
    · rename_i he; subst he
      rw [mvAt_row hp] at hm
      obtain ⟨z, hz, he⟩ := Option.map_eq_some_iff.1 hm
      show ((h.ms[i].l ++ [y])[k]?).map _ = _
      rw [List.getElem?_append_left (List.getElem?_eq_some_iff.1 hz).1, hz, ← he]; rfl
    · exact hm
  · have := hr.ans hm t ht; omega
theorem less_wins {A : Option Addr} {c : Nat} (hp : pos < h.ms.length) (r i : Nat) (hi : i < h.goal.length) (hw : win (setM h pos ⟨A, c, h.ms[pos].l.drop 1⟩) r i) : win g r i := by
  have hrh := hc.right hr
  refine win_of h.goal.length (fun i hi h1 => ?_) (fun i hi k a to hm => ?_) r i hi hw
  · rw [← hc.goal]; exact h1
  · rw [mvAt_setM hp] at hm
    split at hm
    · rename_i he; subst he
      have hm' : mvAt h i (1 + k) = some (a, to) := by
        rw [mvAt_row hp, ← hm]
        show _ = ((h.ms[i].l.drop 1)[k]?).map _
        rw [List.getElem?_drop]
      exact ⟨1 + k, a, to, by rw [← hc.mv]; exact hm', fun t ht => ⟨ht, by have := hrh.ans hm' t ht; omega⟩⟩
    · exact ⟨k, a, to, by rw [← hc.mv]; exact hm, fun t ht => ⟨ht, by have := hrh.ans hm t ht; omega⟩⟩
theorem ans_wins {y : Mv} {A : Option Addr} {c : Nat} (hp : pos < h.ms.length) (h0 : 0 < h.ms[pos].l.length) (hy : ∀ t ∈ h.ms[pos].l[0].to, t ∈ y.to) (r i : Nat) (hi : i < h.goal.length) (hw : win (setM h pos ⟨A, c, h.ms[pos].l.set 0 y⟩) r i) : win g r i := by
  have hrh := hc.right hr
  refine win_of h.goal.length (fun i hi h1 => ?_) (fun i hi k a to hm => ?_) r i hi hw
  · rw [← hc.goal]; exact h1
  · rw [mvAt_setM hp] at hm
    split at hm
    · rename_i he; subst he
      obtain ⟨z, hz, he⟩ := Option.map_eq_some_iff.1 hm
      have hz' : (h.ms[i].l.set 0 y)[k]? = some z := hz
      simp only [Prod.mk.injEq] at he
      obtain ⟨rfl, rfl⟩ := he
      rcases Nat.eq_zero_or_pos k with rfl | hk
      · rw [List.getElem?_set_self h0] at hz'
        cases hz'
        have hm' := mvAt_get hp h0
        exact ⟨0, _, _, by rw [← hc.mv]; exact hm', fun t ht => ⟨hy t ht, by have := hrh.ans hm' t ht; omega⟩⟩
      · rw [List.getElem?_set_ne (by omega)] at hz'
        have hm' : mvAt h i k = some (z.act, z.to) := by rw [mvAt_row hp, hz']; rfl
        exact ⟨k, _, _, by rw [← hc.mv]; exact hm', fun t ht => ⟨ht, by have := hrh.ans hm' t ht; omega⟩⟩
    · exact ⟨k, a, to, by rw [← hc.mv]; exact hm, fun t ht => ⟨ht, by have := hrh.ans hm t ht; omega⟩⟩
end
section
variable {h : Gm} {m pos : Nat} (hr : RightP h) (hp : pos < h.ms.length)
include hr hp
theorem more_right {a : Int} {T A : Option Addr} {tc c to : Nat} (ha : 0 ≤ a) (ha2 : ∀ y, h.ms[pos].l[h.ms[pos].l.length - 1]? = some y → y.act < a) (hto : to < h.goal.length) : RightP (setM h pos ⟨A, c, h.ms[pos].l ++ [⟨a, T, tc, [(to : Int)]⟩]⟩) := by
  refine setM_right hp hr fun k y hy => ?_
  have hy : (h.ms[pos].l ++ [⟨a, T, tc, [(to : Int)]⟩])[k]? = some y := hy
  rcases Nat.lt_or_ge k h.ms[pos].l.length with hk | hk
  · rw [List.getElem?_append_left hk] at hy
    obtain ⟨h1, h2, h3, h4⟩ := hr.row hp k y hy
    refine ⟨h1, fun h0 => ?_, h3, h4⟩
    obtain ⟨z, hz, hlt⟩ := h2 h0
    exact ⟨z, by show (h.ms[pos].l ++ [_])[k - 1]? = _; rw [List.getElem?_append_left (by omega)]; exact hz, hlt⟩
  · rw [List.getElem?_append_right hk] at hy
    have hk2 : k = h.ms[pos].l.length := by
      rcases Nat.eq_or_lt_of_le hk with h' | h'
      · exact h'.symm
      · rw [List.getElem?_eq_none (by simp; omega)] at hy; cases hy
    subst hk2
    rw [Nat.sub_self] at hy
    simp only [List.getElem?_cons_zero, Option.some.injEq] at hy
    subst hy
    refine ⟨ha, fun h0 => ?_, by simp, fun j hj => ?_⟩
    · have hz : h.ms[pos].l[h.ms[pos].l.length - 1]? = some (h.ms[pos].l[h.ms[pos].l.length - 1]'(by omega)) := List.getElem?_eq_getElem (by omega)
      exact ⟨_, by show (h.ms[pos].l ++ [_])[_]? = _; rw [List.getElem?_append_left (by omega)]; exact hz, ha2 _ hz⟩
    · have hj0 : j = 0 := by simp at hj; omega
      subst hj0
      simp only [List.getElem_cons_zero]
      exact ⟨by omega, by omega, fun h => absurd h (Nat.lt_irrefl 0)⟩
theorem less_right {A : Option Addr} {c : Nat} : RightP (setM h pos ⟨A, c, h.ms[pos].l.drop 1⟩) := by
  refine setM_right hp hr fun k y hy => ?_
  have hy : (h.ms[pos].l.drop 1)[k]? = some y := hy
  rw [List.getElem?_drop] at hy
  obtain ⟨h1, h2, h3, h4⟩ := hr.row hp _ y hy
  refine ⟨h1, fun h0 => ?_, h3, h4⟩
  obtain ⟨z, hz, hlt⟩ := h2 (by omega)
  exact ⟨z, by show (h.ms[pos].l.drop 1)[k - 1]? = _; rw [List.getElem?_drop, show 1 + (k - 1) = 1 + k - 1 by omega]; exact hz, hlt⟩
theorem ans_right {T A : Option Addr} {tc c : Nat} {to : List Int} (h0 : 0 < h.ms[pos].l.length) (h1 : to ≠ []) (h2 : AscP h.goal.length to) : RightP (setM h pos ⟨A, c, h.ms[pos].l.set 0 ⟨h.ms[pos].l[0].act, T, tc, to⟩⟩) := by
  refine setM_right hp hr fun k y hy => ?_
  have hy : (h.ms[pos].l.set 0 ⟨h.ms[pos].l[0].act, T, tc, to⟩)[k]? = some y := hy
  show _ ∧ (0 < k → ∃ z, (h.ms[pos].l.set 0 ⟨h.ms[pos].l[0].act, T, tc, to⟩)[k - 1]? = some z ∧ _) ∧ _
  rcases Nat.eq_zero_or_pos k with rfl | hk
  · rw [List.getElem?_set_self h0] at hy
    cases hy
    exact ⟨(hr.row hp 0 _ (List.getElem?_eq_getElem h0)).1, fun h => absurd h (Nat.lt_irrefl 0), h1, h2⟩
  · rw [List.getElem?_set_ne (by omega)] at hy
    obtain ⟨q1, q2, q3, q4⟩ := hr.row hp k y hy
    refine ⟨q1, fun _ => ?_, q3, q4⟩
    obtain ⟨z, hz, hlt⟩ := q2 hk
    rcases Nat.eq_zero_or_pos (k - 1) with hk1 | hk1
    · rw [hk1] at hz ⊢
      rw [List.getElem?_eq_getElem h0] at hz
      cases hz
      exact ⟨_, List.getElem?_set_self h0, hlt⟩
    · exact ⟨z, by rw [List.getElem?_set_ne (by omega)]; exact hz, hlt⟩
end

/-! ### the answers with one more -/
def dL (i to : Nat) (t0 : List Int) : List Int := ((List.range i).filter fun j => decide (j = to) || decide ((j : Int) ∈ t0)).map fun (j : Nat) => (j : Int)
theorem dL_yes {i to : Nat} {t0 : List Int} (h : (decide (i = to) || decide ((i : Int) ∈ t0)) = true) : dL (i + 1) to t0 = dL i to t0 ++ [(i : Int)] := by
  rw [dL, List.range_succ, List.filter_append, List.map_append]
  simp only [List.filter_cons, h, if_true, List.filter_nil]; rfl
theorem dL_no {i to : Nat} {t0 : List Int} (h : (decide (i = to) || decide ((i : Int) ∈ t0)) = false) : dL (i + 1) to t0 = dL i to t0 := by
  rw [dL, List.range_succ, List.filter_append, List.map_append]
  simp only [List.filter_cons, h, List.filter_nil]; simp [dL]
theorem dL_mem {i to : Nat} {t0 : List Int} {x : Int} : x ∈ dL i to t0 ↔ ∃ j : Nat, j < i ∧ x = j ∧ (j = to ∨ (j : Int) ∈ t0) := by
  simp only [dL, List.mem_map, List.mem_filter, List.mem_range, Bool.or_eq_true, decide_eq_true_eq]
  constructor
  · rintro ⟨j, ⟨h1, h2⟩, rfl⟩; exact ⟨j, h1, rfl, h2⟩
  · rintro ⟨j, h1, rfl, h2⟩; exact ⟨j, ⟨h1, h2⟩, rfl⟩
theorem dL_len {i to : Nat} {t0 : List Int} : (dL i to t0).length ≤ i := by
  rw [dL, List.length_map]; exact Nat.le_trans (List.length_filter_le ..) (by simp)
theorem AscP.snoc {n : Nat} {l : List Int} {y : Int} (h : AscP n l) (h0 : 0 ≤ y) (h1 : y < n) (h2 : ∀ x ∈ l, x < y) : AscP n (l ++ [y]) := by
  intro j hj
  rcases Nat.lt_or_ge j l.length with hlt | hge
  · obtain ⟨q1, q2, q3⟩ := h j hlt
    rw [List.getElem_append_left hlt]
    refine ⟨q1, q2, fun hp => ?_⟩
    rw [List.getElem_append_left (by omega)]; exact q3 hp
  · have hj2 : j = l.length := by simp at hj; omega
    subst hj2
    simp only [List.getElem_concat_length]
    refine ⟨h0, h1, fun hp => ?_⟩
    rw [List.getElem_append_left (by omega)]
    exact h2 _ (List.getElem_mem _)
theorem dL_asc {n to : Nat} {t0 : List Int} : ∀ i, i ≤ n → AscP n (dL i to t0)
  | 0, _ => fun j hj => absurd hj (by simp [dL])
  | i + 1, hi => by
    cases hb : (decide (i = to) || decide ((i : Int) ∈ t0)) with
    | false => rw [dL_no hb]; exact dL_asc i (by omega)
    | true =>
      rw [dL_yes hb]
      refine (dL_asc i (by omega)).snoc (by omega) (by omega) fun x hx => ?_
      obtain ⟨j, hj, rfl, _⟩ := dL_mem.1 hx
      omega
end Go.Proofs.Ythakebelpnfinaa

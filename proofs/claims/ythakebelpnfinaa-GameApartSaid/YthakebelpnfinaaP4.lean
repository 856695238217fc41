/- What GameRanks reckons from the ranks of a right game are the ranks and the rows. -/
import Derived.Test.YthakebelpnfinaaG14
set_option linter.unusedVariables false
set_option linter.unusedSimpArgs false
namespace Go.Proofs.Ythakebelpnfinaa
open Go.RowKit Go.Sx

/-- The greatest rank of the answers to; -1 if one has none. -/
def MostP (rk to : List Int) (x : Int) : Prop :=
  (x = -1 ∧ ∃ (j : Nat) (hj : j < to.length), rkO rk to[j] < 0) ∨ (0 ≤ x ∧ WithinP rk to x ∧ (x = 0 ∨ ∃ (j : Nat) (hj : j < to.length), rkO rk to[j] = x))
theorem MostP.within {rk to : List Int} {x y : Int} (h : MostP rk to x) (hw : WithinP rk to y) (hy : 0 ≤ y) : 0 ≤ x ∧ x ≤ y := by
  rcases h with ⟨rfl, j, hj, hn⟩ | ⟨h0, h1, h2⟩
  · have := hw j hj; omega
  · refine ⟨h0, ?_⟩
    rcases h2 with rfl | ⟨j, hj, h⟩
    · exact hy
    · have := hw j hj; omega
theorem MostP.of {rk to : List Int} {x : Int} (h : MostP rk to x) (h0 : 0 ≤ x) : WithinP rk to x := by
  rcases h with ⟨rfl, _⟩ | ⟨_, h, _⟩
  · omega
  · exact h
/-- Of the first k moves of position i: the least greatest rank, and the Act of the first such move. -/
def LeastP (g : Gm) (rk : List Int) (i : Nat) (hi : i < g.ms.length) (k : Nat) (least act : Int) : Prop :=
  (least = -1 ∧ act = -1 ∧ ∀ (a : Nat) (ha : a < g.ms[i].l.length), a < k → MostP rk g.ms[i].l[a].to (-1)) ∨
  (0 ≤ least ∧ ∃ (q : Nat) (hq : q < g.ms[i].l.length), q < k ∧ act = g.ms[i].l[q].act ∧ MostP rk g.ms[i].l[q].to least ∧
    (∀ (a : Nat) (ha : a < g.ms[i].l.length), a < k → ∃ x, MostP rk g.ms[i].l[a].to x ∧ (x = -1 ∨ least ≤ x)) ∧ ∀ (a : Nat) (ha : a < g.ms[i].l.length), a < q → ∃ x, MostP rk g.ms[i].l[a].to x ∧ (x = -1 ∨ least < x))
section
variable {g : Gm} {rk : List Int} {i : Nat} {hi : i < g.ms.length} {k : Nat} {least act n : Int}
theorem LeastP.nil : LeastP g rk i hi 0 (-1) (-1) := .inl ⟨rfl, rfl, fun a _ h => absurd h (Nat.not_lt_zero _)⟩
theorem LeastP.keep (h : LeastP g rk i hi k least act) (hk : k < g.ms[i].l.length) (hn : MostP rk g.ms[i].l[k].to n) (hc : n < 0 ∨ (0 ≤ least ∧ least ≤ n)) : LeastP g rk i hi (k + 1) least act := by
  have hn1 : n < 0 → n = -1 := fun h0 => by rcases hn with ⟨h, _⟩ | ⟨h, _⟩ <;> omega
  rcases h with ⟨h1, h2, h3⟩ | ⟨h0, q, hq, hqk, h1, h2, h3, h4⟩
  · refine .inl ⟨h1, h2, fun a ha hak => ?_⟩
    rcases Nat.lt_or_ge a k with hlt | hge
    · exact h3 a ha hlt
    · obtain rfl : a = k := by omega
      have := hn1 (by omega)
      rwa [this] at hn
  · refine .inr ⟨h0, q, hq, by omega, h1, h2, fun a ha hak => ?_, h4⟩
    rcases Nat.lt_or_ge a k with hlt | hge
    · exact h3 a ha hlt
    · obtain rfl : a = k := by omega
      exact ⟨n, hn, by rcases hc with hc | hc; exact .inl (hn1 hc); exact .inr hc.2⟩
theorem LeastP.take (h : LeastP g rk i hi k least act) (hk : k < g.ms[i].l.length) (hn : MostP rk g.ms[i].l[k].to n) (h0 : 0 ≤ n) (hc : least < 0 ∨ n < least) : LeastP g rk i hi (k + 1) n g.ms[i].l[k].act := by
  have hall : ∀ (a : Nat) (ha : a < g.ms[i].l.length), a < k → ∃ x, MostP rk g.ms[i].l[a].to x ∧ (x = -1 ∨ n < x) := by
    intro a ha hak
    rcases h with ⟨h1, h2, h3⟩ | ⟨h0', q, hq, hqk, h1, h2, h3, h4⟩
    · exact ⟨-1, h3 a ha hak, .inl rfl⟩
    · obtain ⟨x, hx, hx2⟩ := h3 a ha hak
      exact ⟨x, hx, by rcases hx2 with hx2 | hx2; exact .inl hx2; exact .inr (by omega)⟩
  refine .inr ⟨h0, k, hk, by omega, rfl, hn, fun a ha hak => ?_, hall⟩
  rcases Nat.lt_or_ge a k with hlt | hge
  · obtain ⟨x, hx, hx2⟩ := hall a ha hlt
    exact ⟨x, hx, by rcases hx2 with hx2 | hx2; exact .inl hx2; exact .inr (by omega)⟩
  · obtain rfl : a = k := by omega
    exact ⟨n, hn, .inr (Int.le_refl _)⟩
end
section
variable {g : Gm} {rk : List Int} {i : Nat}
theorem RanksP.wins (hrk : RanksP g rk) (hi : i < g.goal.length) (h0 : 0 ≤ rkO rk i) : win g (rkO rk i).toNat i := by
  have hir : i < rk.length := by rw [hrk.len]; exact hi
  have := hrk.rk i hir
  rw [rkO_eq hir] at h0 ⊢
  rcases this with ⟨h, _⟩ | ⟨r, h, hw, _⟩
  · omega
  · rw [h]; simpa using hw
theorem RanksP.le (hrk : RanksP g rk) (hi : i < g.goal.length) {s : Nat} (hw : win g s i) : 0 ≤ rkO rk i ∧ rkO rk i ≤ s := by
  have hir : i < rk.length := by rw [hrk.len]; exact hi
  have := hrk.rk i hir
  rw [rkO_eq hir]
  rcases this with ⟨h, hn⟩ | ⟨r, h, _, hmin⟩
  · exact absurd hw (hn s)
  · refine ⟨by omega, ?_⟩
    rcases Nat.lt_or_ge s r with hlt | hge
    · exact absurd hw (hmin s hlt)
    · omega
theorem RanksP.goal (hrk : RanksP g rk) (hg : g.goal[i]? = some true) : rkO rk i = 0 := by
  have hi : i < g.goal.length := (List.getElem?_eq_some_iff.1 hg).1
  have := hrk.le hi (s := 0) hg
  omega
theorem within_wins (hr : RightP g) (hrk : RanksP g rk) (hi : i < g.ms.length) {q : Nat} (hq : q < g.ms[i].l.length) {x : Int} (h0 : 0 ≤ x) (hw : WithinP rk g.ms[i].l[q].to x) : win g (x.toNat + 1) i := by
  refine .inr ⟨hi, q, hq, fun j hj => ?_⟩
  obtain ⟨u0, u1, _⟩ := (hr.mv i hi q hq).2.2.2 j hj
  obtain ⟨p, hp⟩ := Int.eq_ofNat_of_zero_le u0
  obtain ⟨w0, w1⟩ := hw j hj
  rw [hp] at w0 w1 ⊢
  exact win_mono (hrk.wins (i := p) (by omega) w0) (by omega)
/-- The rank of a position that is no goal. -/
theorem LeastP.rank (hr : RightP g) (hrk : RanksP g rk) {hi : i < g.ms.length} {least act : Int} (h : LeastP g rk i hi g.ms[i].l.length least act) (hg : g.goal[i]? = some false) :
    (least < 0 ∧ rkO rk i = -1) ∨ (0 ≤ least ∧ rkO rk i = least + 1 ∧ RowP g rk i ⟨i, act, least + 1⟩) := by
  have hig : i < g.goal.length := by rw [hr.len]; exact hi
  have hir : i < rk.length := by rw [hrk.len]; exact hig
  have hbd := hrk.bound hir
  have hn0 : ¬ win g 0 i := by intro hw; simp only [win] at hw; rw [hg] at hw; cases hw
  -- a good move of each positive rank
  have hgood : 0 ≤ rkO rk i → ∃ (q : Nat) (hq : q < g.ms[i].l.length), 1 ≤ rkO rk i ∧ WithinP rk g.ms[i].l[q].to (rkO rk i - 1) := by
    intro h0
    have hp : 0 < rkO rk i := by
      rcases Int.lt_or_le 0 (rkO rk i) with hp | hp
      · exact hp
      · have := hrk.wins hig h0
        rw [show (rkO rk i).toNat = 0 by omega] at this
        exact absurd this hn0
    obtain ⟨q, hq, hw⟩ := good_ex hr hrk hi hp
    exact ⟨q, hq, by omega, hw⟩
  rcases h with ⟨h1, h2, h3⟩ | ⟨h0, q, hq, _, h1, h2, h3, h4⟩
  · refine .inl ⟨by omega, ?_⟩
    rcases Int.lt_or_le (rkO rk i) 0 with hlt | hge
    · omega
    · obtain ⟨q, hq, hp, hw⟩ := hgood hge
      have := (h3 q hq hq).within hw (by omega)
      omega
  · have hw := within_wins hr hrk hi hq h0 (h2.of h0)
    obtain ⟨w0, w1⟩ := hrk.le hig hw
    obtain ⟨q', hq', hp, hw'⟩ := hgood w0
    obtain ⟨x, hx, hx2⟩ := h3 q' hq' hq'
    have := hx.within hw' (by omega)
    have e : rkO rk i = least + 1 := by omega
    refine .inr ⟨h0, e, ?_⟩
    rw [← e, h1]
    refine .move (by omega) hi q hq ⟨?_, fun a ha haq hwa => ?_⟩
    · rw [show rkO rk i - 1 = least by omega]; exact h2.of h0
    · obtain ⟨y, hy, hy2⟩ := h4 a ha haq
      have := hy.within hwa (by omega)
      omega
/-- The rows of the positions ahead of i are the first ones. -/
theorem RowsTo.front {n : Nat} {rows : List Rw} (h : RowsTo g rk n rows) : ∀ i, i ≤ n → ∃ m, m ≤ rows.length ∧ RowsTo g rk i (rows.take m) := by
  induction h with
  | zero =>
    intro i hi
    obtain rfl : i = 0 := by omega
    exact ⟨0, Nat.le_refl _, .zero⟩
  | @skip n l h hl ih =>
    intro i hi
    rcases Nat.eq_or_lt_of_le hi with rfl | hlt
    · exact ⟨l.length, Nat.le_refl _, by rw [List.take_length]; exact .skip h hl⟩
    · exact ih i (by omega)
  | @add n l x h hl ih =>
    intro i hi
    rcases Nat.eq_or_lt_of_le hi with rfl | hlt
    · exact ⟨(l ++ [x]).length, Nat.le_refl _, by rw [List.take_length]; exact .add h hl⟩
    · obtain ⟨m, hm, hr⟩ := ih i (by omega)
      exact ⟨m, by simp; omega, by rw [List.take_append_of_le_length hm]; exact hr⟩
theorem RowsTo.next_none {n m : Nat} {rows : List Rw} (h : RowsTo g rk n rows) (hm : m ≤ rows.length) (hi : i < n) (hf : RowsTo g rk i (rows.take m)) (h0 : rkO rk i < 0) : RowsTo g rk (i + 1) (rows.take m) := .skip h0 hf
theorem RowsTo.next_some {n m : Nat} {rows : List Rw} (h : RowsTo g rk n rows) (hm : m ≤ rows.length) (hi : i < n) (hf : RowsTo g rk i (rows.take m)) (h0 : 0 ≤ rkO rk i) : ∃ (hml : m < rows.length), RowP g rk i rows[m] ∧ RowsTo g rk (i + 1) (rows.take (m + 1)) := by
  obtain ⟨m', hm', hr'⟩ := h.front (i + 1) (by omega)
  have hr2 := hr'
  generalize hL : rows.take m' = L at hr'
  cases hr' with
  | skip h1 _ => omega
  | @add _ l x hx hl =>
    have e := hl.unique hf
    have hlen : m' = m + 1 := by
      have := congrArg List.length hL
      rw [e] at this
      simp at this
      omega
    subst hlen
    have hml : m < rows.length := by omega
    refine ⟨hml, ?_, hr2⟩
    have : rows[m] = x := by
      have h1 : (rows.take (m + 1))[m]? = some rows[m] := by simp [hml]
      rw [hL, e, List.getElem?_append_right (by simp; omega)] at h1
      have h2 : m - (rows.take m).length = 0 := by simp; omega
      rw [h2] at h1
      exact (Option.some.inj h1).symm
    rw [this]; exact hx
theorem RowsTo.all {n m : Nat} {rows : List Rw} (h : RowsTo g rk n rows) (hm : m ≤ rows.length) (hf : RowsTo g rk n (rows.take m)) : m = rows.length := by
  have := congrArg List.length (hf.unique h)
  simp at this
  omega
end
end Go.Proofs.Ythakebelpnfinaa

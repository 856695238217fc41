/- Plain facts on ranks: what a rank is, that it is one, and the reference's rounds. -/
import Derived.Test.YthakebelpnfinaaG6
set_option linter.unusedVariables false
set_option linter.unusedSimpArgs false
namespace Go.Proofs.Ythakebelpnfinaa
open Go.RowKit Go.Sx

/-- Position i is won in at most r rounds. -/
def win (g : Gm) : Nat → Nat → Prop
  | 0, i => g.goal[i]? = some true
  | r + 1, i => win g r i ∨ ∃ (hi : i < g.ms.length) (k : Nat) (hk : k < g.ms[i].l.length), ∀ (j : Nat) (hj : j < g.ms[i].l[k].to.length), win g r g.ms[i].l[k].to[j].toNat
theorem win_mono {g : Gm} {r s i : Nat} (h : win g r i) (hrs : r ≤ s) : win g s i := by
  induction hrs with
  | refl => exact h
  | step _ ih => exact .inl ih
/-- The rank x of position i. -/
def RkP (g : Gm) (i : Nat) (x : Int) : Prop := (x = -1 ∧ ∀ r, ¬ win g r i) ∨ ∃ r : Nat, x = r ∧ win g r i ∧ ∀ s, s < r → ¬ win g s i
theorem RkP.unique {g : Gm} {i : Nat} {x y : Int} (h : RkP g i x) (h' : RkP g i y) : x = y := by
  rcases h with ⟨rfl, h⟩ | ⟨r, rfl, h1, h2⟩
  · rcases h' with ⟨rfl, _⟩ | ⟨s, rfl, h3, _⟩
    · rfl
    · exact absurd h3 (h s)
  · rcases h' with ⟨rfl, h'⟩ | ⟨s, rfl, h3, h4⟩
    · exact absurd h1 (h' r)
    · rcases Nat.lt_trichotomy r s with h | h | h
      · exact absurd h1 (h4 r h)
      · rw [h]
      · exact absurd h3 (h2 s h)
structure RanksP (g : Gm) (rk : List Int) : Prop where
  len : rk.length = g.goal.length
  ub : ∀ (i : Nat) (hi : i < rk.length), rk[i] ≤ g.goal.length
  rk : ∀ (i : Nat) (hi : i < rk.length), RkP g i rk[i]
theorem RanksP.unique {g : Gm} {rk rk' : List Int} (h : RanksP g rk) (h' : RanksP g rk') : rk = rk' := by
  apply List.ext_getElem (by rw [h.len, h'.len])
  intro i h1 h2
  exact (h.rk i h1).unique (h'.rk i h2)
/-- Behind round r: who is won in at most r rounds has its rank, the others have -1. -/
def UpTo (g : Gm) (r : Nat) (i : Nat) (x : Int) : Prop := (x = -1 ∧ ¬ win g r i) ∨ ∃ s : Nat, s ≤ r ∧ x = s ∧ win g s i ∧ ∀ t, t < s → ¬ win g t i
theorem UpTo.wins {g : Gm} {r i : Nat} {x : Int} (h : UpTo g r i x) : 0 ≤ x ↔ win g r i := by
  rcases h with ⟨rfl, h⟩ | ⟨s, hs, rfl, h1, h2⟩
  · constructor
    · intro h; omega
    · intro h'; exact absurd h' h
  · exact ⟨fun _ => win_mono h1 hs, fun _ => by omega⟩
theorem UpTo.next {g : Gm} {r i : Nat} {x : Int} (h : UpTo g r i x) (h0 : 0 ≤ x) : UpTo g (r + 1) i x := by
  rcases h with ⟨rfl, h⟩ | ⟨s, hs, rfl, h1, h2⟩
  · omega
  · exact .inr ⟨s, by omega, rfl, h1, h2⟩
theorem UpTo.le {g : Gm} {r i : Nat} {x : Int} (h : UpTo g r i x) : x ≤ r := by
  rcases h with ⟨rfl, h⟩ | ⟨s, hs, rfl, h1, h2⟩ <;> omega
/-- Whether all answers of a move are won, as the round asks it: some entries may already be of the next round. -/
theorem within_iff {g : Gm} {rk to : List Int} {r : Nat} (hlen : rk.length = g.goal.length) (hin : InP g.goal.length to)
    (hU : ∀ (i : Nat) (hi : i < rk.length), UpTo g r i rk[i] ∨ UpTo g (r + 1) i rk[i]) : WithinP rk to r ↔ ∀ (j : Nat) (hj : j < to.length), win g r to[j].toNat := by
  constructor
  · intro h j hj
    obtain ⟨h0, h1⟩ := h j hj
    obtain ⟨u0, u1⟩ := hin j hj
    have hlt : to[j].toNat < rk.length := by omega
    have e : rkO rk to[j] = rk[to[j].toNat] := by rw [rkO, List.getD_eq_getElem?_getD, List.getElem?_eq_getElem hlt]; rfl
    rw [e] at h0 h1
    rcases hU _ hlt with hu | hu
    · exact hu.wins.1 h0
    · rcases hu with ⟨hx, _⟩ | ⟨s, hs, hx, hw, _⟩
      · omega
      · exact win_mono hw (by omega)
  · intro h j hj
    obtain ⟨u0, u1⟩ := hin j hj
    have hlt : to[j].toNat < rk.length := by omega
    have e : rkO rk to[j] = rk[to[j].toNat] := by rw [rkO, List.getD_eq_getElem?_getD, List.getElem?_eq_getElem hlt]; rfl
    rw [e]
    have hw := h j hj
    rcases hU _ hlt with hu | hu
    · exact ⟨hu.wins.2 hw, hu.le⟩
    · rcases hu with ⟨hx, hn⟩ | ⟨s, hs, hx, hw', hmin⟩
      · exact absurd (.inl hw) hn
      · refine ⟨by omega, ?_⟩
        rcases Nat.lt_or_ge r s with h' | h'
        · exact absurd hw (hmin r h')
        · omega
/-- A round that finds no more ends all. -/
theorem win_stop {g : Gm} {r : Nat} (hr : RightP g) (h : ∀ i, i < g.goal.length → win g (r + 1) i → win g r i) : ∀ s i, i < g.goal.length → win g s i → win g r i := by
  intro s
  induction s with
  | zero => intro i hi hw; exact win_mono hw (Nat.zero_le _)
  | succ s ih =>
    intro i hi hw
    rcases hw with hw | ⟨hi', k, hk, hw⟩
    · exact ih i hi hw
    · refine h i hi (.inr ⟨hi', k, hk, fun j hj => ih _ ?_ (hw j hj)⟩)
      have := (hr.mv i hi' k hk).2.2.2 j hj
      omega
theorem ranks_stop {g : Gm} {rk : List Int} {r : Nat} (hr : RightP g) (hlen : rk.length = g.goal.length) (hU : ∀ (i : Nat) (hi : i < rk.length), UpTo g r i rk[i])
    (h : ∀ i, i < g.goal.length → win g (r + 1) i → win g r i) (hrn : r ≤ g.goal.length) : RanksP g rk := by
  refine ⟨hlen, fun i hi => by have := (hU i hi).le; omega, fun i hi => ?_⟩
  rcases hU i hi with ⟨hx, hn⟩ | ⟨s, hs, hx, hw, hmin⟩
  · exact .inl ⟨hx, fun t ht => hn (win_stop hr h t i (by omega) ht)⟩
  · exact .inr ⟨s, hx, hw, hmin⟩
/-- How many have a rank. -/
def cntR (rk : List Int) : Nat := rk.countP (fun x => decide (0 ≤ x))
theorem cntR_set {rk : List Int} {i : Nat} (hi : i < rk.length) {x : Int} (h0 : rk[i] < 0) (h1 : 0 ≤ x) : cntR (rk.set i x) = cntR rk + 1 := by
  have e : rk = rk.take i ++ (rk[i] :: rk.drop (i + 1)) := by rw [← List.drop_eq_getElem_cons hi, List.take_append_drop]
  have e2 : rk.set i x = rk.take i ++ (x :: rk.drop (i + 1)) := by rw [List.set_eq_take_append_cons_drop, if_pos hi]
  have c1 : cntR rk = cntR (rk.take i) + (cntR (rk.drop (i + 1))) := by
    conv => lhs; rw [e]
    simp only [cntR, List.countP_append, List.countP_cons]
    simp; omega
  rw [e2, c1]
  simp only [cntR, List.countP_append, List.countP_cons]
  simp [h1]; omega
theorem cntR_full {rk : List Int} (h : rk.length ≤ cntR rk) : ∀ (i : Nat) (hi : i < rk.length), 0 ≤ rk[i] := by
  intro i hi
  have h1 : cntR rk = rk.length := Nat.le_antisymm List.countP_le_length h
  have := List.countP_eq_length.1 h1 rk[i] (List.getElem_mem hi)
  simpa using this
theorem ranks_full {g : Gm} {rk : List Int} {r : Nat} (hlen : rk.length = g.goal.length) (hU : ∀ (i : Nat) (hi : i < rk.length), UpTo g r i rk[i]) (h : rk.length ≤ cntR rk) (hrn : r ≤ g.goal.length) : RanksP g rk := by
  refine ⟨hlen, fun i hi => by have := (hU i hi).le; omega, fun i hi => ?_⟩
  rcases hU i hi with ⟨hx, hn⟩ | ⟨s, hs, hx, hw, hmin⟩
  · have := cntR_full h i hi; omega
  · exact .inr ⟨s, hx, hw, hmin⟩
theorem UpTo.new {g : Gm} {r i : Nat} (hn : ¬ win g r i) (hw : win g (r + 1) i) : UpTo g (r + 1) i ((r : Int) + 1) :=
  .inr ⟨r + 1, Nat.le_refl _, by omega, hw, fun t ht h => hn (win_mono h (by omega))⟩
theorem UpTo.none {g : Gm} {r i : Nat} {x : Int} (h : UpTo g r i x) (h0 : x < 0) (hi : i < g.ms.length) (hk : ∀ (k : Nat) (hk : k < g.ms[i].l.length), ¬ ∀ (j : Nat) (hj : j < g.ms[i].l[k].to.length), win g r g.ms[i].l[k].to[j].toNat) : UpTo g (r + 1) i x := by
  rcases h with ⟨rfl, h⟩ | ⟨s, hs, rfl, h1, h2⟩
  · refine .inl ⟨rfl, fun hw => ?_⟩
    rcases hw with hw | ⟨_, k, hk', hw⟩
    · exact h hw
    · exact hk k hk' hw
  · omega
end Go.Proofs.Ythakebelpnfinaa

/- Plain facts on what begin builds. -/
import Derived.Test.YthakebelpnfinaaG8
set_option linter.unusedVariables false
set_option linter.unusedSimpArgs false
namespace Go.Proofs.Ythakebelpnfinaa
open Go.RowKit Go.Sx
/-- A list of moves' numbers, as it lies. -/
structure Il where
  A : Option Addr
  c : Nat
  l : List Int
def ilE : Enc Il := { enc := fun x => [.slice x.A x.l.length x.c], sz := 1, len := fun _ => rfl, one := fun x v hv => by simp at hv; subst hv; rfl, pos := by decide }
def ilR (x : Il) : Res := rowR iE 3 x.A x.c x.l
def il0 : Il := ⟨none, 0, []⟩
abbrev Fl := List (Nat × List Int)
def owL (fl : Fl) : List Int := fl.map fun x => (x.1 : Int)
def lfL (fl : Fl) : List Int := fl.map fun x => (x.2.length : Int)
theorem owL_len (fl : Fl) : (owL fl).length = fl.length := by simp [owL]
theorem lfL_len (fl : Fl) : (lfL fl).length = fl.length := by simp [lfL]
theorem owL_add (fl : Fl) (x : Nat × List Int) : owL (fl ++ [x]) = owL fl ++ [(x.1 : Int)] := by simp [owL]
theorem lfL_add (fl : Fl) (x : Nat × List Int) : lfL (fl ++ [x]) = lfL fl ++ [(x.2.length : Int)] := by simp [lfL]
def quL (goal : List Bool) (i : Nat) : List Int := List.map (fun p : Nat => (p : Int)) ((List.range i).filter fun p => goal[p]? == some true)
theorem quL_add {goal : List Bool} {i : Nat} (h : goal[i]? = some true) : quL goal (i + 1) = quL goal i ++ [(i : Int)] := by simp [quL, List.range_succ, h]
theorem quL_keep {goal : List Bool} {i : Nat} (h : goal[i]? = some false) : quL goal (i + 1) = quL goal i := by simp [quL, List.range_succ, h]
theorem quL_len (goal : List Bool) (i : Nat) : (quL goal i).length ≤ i := by
  simp only [quL, List.length_map]
  exact Nat.le_trans (List.length_filter_le ..) (by simp)
theorem rk0_false {goal : List Bool} {i : Nat} (h : goal[i]? = some false) : rk0 (goal.take (i + 1)) = rk0 (goal.take i) ++ [-1] := by rw [rk0, rk0, List.take_add_one, h, List.map_append]; rfl
theorem rk0_true {goal : List Bool} {i : Nat} (h : goal[i]? = some true) : rk0 (goal.take (i + 1)) = (rk0 (goal.take i) ++ [-1]).set i 0 := by
  have hi : i < goal.length := (List.getElem?_eq_some_iff.1 h).1
  have hl : (rk0 (goal.take i)).length = i := by rw [rk0_len, List.length_take]; omega
  rw [List.set_append_right _ _ (by omega), hl, Nat.sub_self, rk0, rk0, List.take_add_one, h, List.map_append]; rfl
structure FlP (g : Gm) (fl : Fl) (i k : Nat) : Prop where
  len : fl.length ≤ 13 * i + k
  sound : ∀ (m : Nat) (hm : m < fl.length), ∃ (hi : fl[m].1 < g.ms.length) (q : Nat) (hq : q < g.ms[fl[m].1].l.length), fl[m].2 = g.ms[fl[m].1].l[q].to
  compl : ∀ (a : Nat) (ha : a < g.ms.length) (q : Nat) (hq : q < g.ms[a].l.length), (a < i ∨ (a = i ∧ q < k)) → ∃ (m : Nat) (hm : m < fl.length), fl[m] = (a, g.ms[a].l[q].to)
theorem FlP.nil (g : Gm) : FlP g [] 0 0 := ⟨Nat.zero_le _, fun m hm => absurd hm (Nat.not_lt_zero _), fun a ha q hq h => by omega⟩
theorem FlP.add {g : Gm} {fl : Fl} {i k : Nat} (h : FlP g fl i k) (hi : i < g.ms.length) (hk : k < g.ms[i].l.length) : FlP g (fl ++ [(i, g.ms[i].l[k].to)]) i (k + 1) := by
  refine ⟨by have := h.len; simp; omega, fun m hm => ?_, fun a ha q hq hh => ?_⟩
  · rcases Nat.lt_or_ge m fl.length with hlt | hge
    · rw [List.getElem_append_left hlt]; exact h.sound m hlt
    · have : m = fl.length := by simp at hm; omega
      subst this
      simp only [List.getElem_concat_length]
      exact ⟨hi, k, hk, rfl⟩
  · by_cases hq2 : a < i ∨ (a = i ∧ q < k)
    · obtain ⟨m, hm, he⟩ := h.compl a ha q hq hq2
      exact ⟨m, by simp; omega, by rw [List.getElem_append_left hm]; exact he⟩
    · obtain ⟨rfl, rfl⟩ : a = i ∧ q = k := by omega
      exact ⟨fl.length, by simp, by simp⟩
theorem FlP.next {g : Gm} {fl : Fl} {i k : Nat} (h : FlP g fl i k) (hi : i < g.ms.length) (hk : g.ms[i].l.length ≤ k) (hk12 : k ≤ 13) : FlP g fl (i + 1) 0 := by
  refine ⟨by have := h.len; omega, h.sound, fun a ha q hq hh => h.compl a ha q hq ?_⟩
  rcases Nat.lt_or_ge a i with hlt | hge
  · exact .inl hlt
  · obtain rfl : a = i := by omega
    exact .inr ⟨rfl, by omega⟩
structure IntoP (n : Nat) (il : List Il) (fl : Fl) (part : List Int) : Prop where
  len : il.length = n
  nd : ∀ (p : Nat) (hp : p < il.length), il[p].l.Nodup
  mem : ∀ (p : Nat) (hp : p < il.length) (x : Int), x ∈ il[p].l ↔ (∃ (m : Nat) (hm : m < fl.length), x = m ∧ (p : Int) ∈ fl[m].2) ∨ (x = (fl.length : Int) ∧ (p : Int) ∈ part)
  bnd : ∀ (p : Nat) (hp : p < il.length), il[p].l.length ≤ fl.length + (if (p : Int) ∈ part then 1 else 0)
theorem IntoP.nil (n : Nat) : IntoP n (List.replicate n il0) [] [] := by
  refine ⟨by simp, fun p hp => by simp [il0], fun p hp x => ?_, fun p hp => by simp [il0]⟩
  simp [il0]
theorem IntoP.add {n : Nat} {il : List Il} {fl : Fl} {part : List Int} (h : IntoP n il fl part) {p : Nat} (hp : p < il.length) (hnp : (p : Int) ∉ part) (A : Option Addr) (c : Nat) : IntoP n (il.set p ⟨A, c, il[p].l ++ [(fl.length : Int)]⟩) fl (part ++ [(p : Int)]) := by
  have hnot : (fl.length : Int) ∉ il[p].l := fun hx => by
    rcases (h.mem p hp _).1 hx with ⟨m, hm, he, _⟩ | ⟨_, hq⟩
    · omega
    · exact hnp hq
  refine ⟨by simp [h.len], fun q hq => ?_, fun q hq x => ?_, fun q hq => ?_⟩
  · have hq' : q < il.length := by simpa using hq
    by_cases hqp : p = q
    · subst hqp
      simp only [List.getElem_set_self]
      rw [List.nodup_append]
      refine ⟨h.nd p hp, by simp, fun a ha b hb => ?_⟩
      rw [List.mem_singleton.1 hb]
      rintro rfl
      exact hnot ha
    · rw [List.getElem_set_ne hqp]; exact h.nd q hq'
  · have hq' : q < il.length := by simpa using hq
    by_cases hqp : p = q
    · subst hqp
      simp only [List.getElem_set_self, List.mem_append, List.mem_singleton, h.mem p hp x, or_true, and_true]
      constructor
      · rintro ((h1 | ⟨h1, h2⟩) | h1)
        · exact .inl h1
        · exact .inr h1
        · exact .inr h1
      · rintro (h1 | h1)
        · exact .inl (.inl h1)
        · exact .inr h1
    · rw [List.getElem_set_ne hqp, h.mem q hq' x]
      have : (q : Int) ∈ part ++ [(p : Int)] ↔ (q : Int) ∈ part := by
        rw [List.mem_append, List.mem_singleton]
        constructor
        · rintro (h1 | h1)
          · exact h1
          · omega
        · exact .inl
      rw [this]
  · have hq' : q < il.length := by simpa using hq
    have hb := h.bnd q hq'
    by_cases hqp : p = q
    · subst hqp
      rw [if_neg hnp] at hb
      simp only [List.getElem_set_self, List.length_append, List.length_cons, List.length_nil]
      rw [if_pos (by simp)]
      omega
    · rw [List.getElem_set_ne hqp]
      have : (q : Int) ∈ part ++ [(p : Int)] ↔ (q : Int) ∈ part := by
        rw [List.mem_append, List.mem_singleton]
        constructor
        · rintro (h1 | h1)
          · exact h1
          · omega
        · exact .inl
      simp only [this]; exact hb
theorem IntoP.done {n : Nat} {il : List Il} {fl : Fl} {to : List Int} (h : IntoP n il fl to) (i : Nat) : IntoP n il (fl ++ [(i, to)]) [] := by
  refine ⟨h.len, h.nd, fun p hp x => ?_, fun p hp => ?_⟩
  · rw [h.mem p hp x]
    constructor
    · rintro (⟨m, hm, h1, h2⟩ | ⟨h1, h2⟩)
      · exact .inl ⟨m, by simp; omega, h1, by rw [List.getElem_append_left hm]; exact h2⟩
      · exact .inl ⟨fl.length, by simp, h1, by simpa using h2⟩
    · rintro (⟨m, hm, h1, h2⟩ | ⟨h1, h2⟩)
      · rcases Nat.lt_or_ge m fl.length with hlt | hge
        · rw [List.getElem_append_left hlt] at h2
          exact .inl ⟨m, hlt, h1, h2⟩
        · have : m = fl.length := by simp at hm; omega
          subst this
          simp only [List.getElem_concat_length] at h2
          exact .inr ⟨h1, h2⟩
      · simp at h2
  · have := h.bnd p hp
    simp only [List.length_append, List.length_cons, List.length_nil]
    split at this <;> simp <;> omega
theorem asc_nodup {n : Nat} {to : List Int} (h : AscP n to) : ∀ (j q : Nat) (hj : j < to.length) (hq : q < to.length), q < j → to[q] < to[j] := by
  intro j
  induction j with
  | zero => intro q _ _ h; omega
  | succ j ih =>
    intro q hj hq hlt
    have h1 := (h (j + 1) hj).2.2 (by omega)
    simp only [Nat.add_sub_cancel] at h1
    rcases Nat.lt_or_ge q j with h2 | h2
    · have := ih q (by omega) hq h2; omega
    · obtain rfl : q = j := by omega
      exact h1
theorem asc_fresh {n : Nat} {to : List Int} (h : AscP n to) {j : Nat} (hj : j < to.length) : to[j] ∉ to.take j := by
  intro hm
  obtain ⟨q, hq, he⟩ := List.mem_take_iff_getElem.1 hm
  have := asc_nodup h j q hj (by omega) (by omega)
  omega
end Go.Proofs.Ythakebelpnfinaa

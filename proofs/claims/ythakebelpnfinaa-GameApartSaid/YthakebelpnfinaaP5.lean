/- Plain laws of the ranks of a right game: what the worst answers do, and which rows there are. -/
import Derived.Test.YthakebelpnfinaaP4
set_option linter.unusedVariables false
set_option linter.unusedSimpArgs false
namespace Go.Proofs.Ythakebelpnfinaa
open Go.RowKit Go.Sx
section
variable {g : Gm} {rk : List Int} {i : Nat}
theorem worst_law (hr : RightP g) (hrk : RanksP g rk) (hi : i < g.ms.length) {q : Nat} (hq : q < g.ms[i].l.length) {r : Int} (hw : IsWorst rk g.ms[i].l[q].to r) : 0 ≤ r ∧ r < g.goal.length ∧ (0 ≤ rkO rk r → 0 ≤ rkO rk i ∧ rkO rk i ≤ rkO rk r + 1) := by
  obtain ⟨j, hj, he, _, h2⟩ := hw
  obtain ⟨u0, u1, _⟩ := (hr.mv i hi q hq).2.2.2 j hj
  refine ⟨by omega, by omega, fun h0 => ?_⟩
  have hwi : WithinP rk g.ms[i].l[q].to (rkO rk r) := by
    intro a ha
    have := h2 a ha
    simp only [lessB] at this
    omega
  have := hrk.le (by rw [hr.len]; exact hi) (within_wins hr hrk hi hq h0 hwi)
  omega
theorem AnsP.law (hr : RightP g) (hrk : RanksP g rk) (hi : i < g.ms.length) {act r : Int} {ok : Bool} (hA : AnsP g rk i act r ok) {a : Nat} (ha : a < g.ms[i].l.length) (hact : g.ms[i].l[a].act = act) :
    ok = true ∧ 0 ≤ r ∧ r < g.goal.length ∧ (0 ≤ rkO rk r → 0 ≤ rkO rk i ∧ rkO rk i ≤ rkO rk r + 1) ∧ ∃ (q : Nat) (hq : q < g.ms[i].l.length), g.ms[i].l[q].act = act ∧ IsWorst rk g.ms[i].l[q].to r := by
  cases hA with
  | out h =>
    have h1 := hrk.len
    have h2 := hr.len
    rcases h with h | h
    · exact absurd ⟨by omega, by omega⟩ h
    · exact absurd (by omega) h
  | none i' hi' hp hl h =>
    obtain rfl : i = i' := by omega
    exact absurd hact (h a ha)
  | some i' hi' hp hl k hk hact' hq r hw =>
    obtain rfl : i = i' := by omega
    obtain ⟨h0, h1, h2⟩ := worst_law hr hrk hi hk hw
    exact ⟨rfl, h0, h1, h2, k, hk, hact', hw⟩
theorem acts_lt (hr : RightP g) (hi : i < g.ms.length) : ∀ (b a : Nat) (hb : b < g.ms[i].l.length) (ha : a < g.ms[i].l.length), a < b → g.ms[i].l[a].act < g.ms[i].l[b].act := by
  intro b
  induction b with
  | zero => intro a _ _ h; omega
  | succ b ih =>
    intro a hb ha hlt
    have h1 := (hr.mv i hi (b + 1) hb).2.1 (by omega)
    simp only [Nat.add_sub_cancel] at h1
    rcases Nat.lt_or_ge a b with h2 | h2
    · have := ih a (by omega) ha h2; omega
    · obtain rfl : a = b := by omega
      exact h1
theorem acts_inj (hr : RightP g) (hi : i < g.ms.length) {a b : Nat} (ha : a < g.ms[i].l.length) (hb : b < g.ms[i].l.length) (h : g.ms[i].l[a].act = g.ms[i].l[b].act) : a = b := by
  rcases Nat.lt_trichotomy a b with h1 | h1 | h1
  · have := acts_lt hr hi b a hb ha h1; omega
  · exact h1
  · have := acts_lt hr hi a b ha hb h1; omega
theorem RowP.pos {x : Rw} (h : RowP g rk i x) : x.pos = i := by cases h <;> rfl
theorem RowP.rank {x : Rw} (h : RowP g rk i x) : x.rank = rkO rk i := by
  cases h with
  | goal h => exact h.symm
  | move => rfl
theorem RowsTo.mem {m : Nat} {rows : List Rw} (h : RowsTo g rk m rows) {x : Rw} (hx : x ∈ rows) : ∃ i, i < m ∧ RowP g rk i x := by
  induction h with
  | zero => cases hx
  | skip _ _ ih => obtain ⟨i, hi, h⟩ := ih hx; exact ⟨i, by omega, h⟩
  | @add m l y hy _ ih =>
    rcases List.mem_append.1 hx with hx | hx
    · obtain ⟨i, hi, h⟩ := ih hx; exact ⟨i, by omega, h⟩
    · rw [List.mem_singleton.1 hx]; exact ⟨m, by omega, hy⟩
theorem RowsTo.has {m : Nat} {rows : List Rw} (h : RowsTo g rk m rows) {i : Nat} (hi : i < m) (h0 : 0 ≤ rkO rk i) : ∃ x, x ∈ rows ∧ RowP g rk i x := by
  induction h with
  | zero => omega
  | @skip m l hn _ ih =>
    rcases Nat.lt_or_ge i m with hlt | hge
    · exact ih hlt
    · obtain rfl : i = m := by omega
      omega
  | @add m l y hy _ ih =>
    rcases Nat.lt_or_ge i m with hlt | hge
    · obtain ⟨x, hx, hp⟩ := ih hlt; exact ⟨x, List.mem_append_left _ hx, hp⟩
    · obtain rfl : i = m := by omega
      exact ⟨y, by simp, hy⟩
/-- A position without moves that is no goal has no rank. -/
theorem RanksP.stuck (hr : RightP g) (hrk : RanksP g rk) (hi : i < g.ms.length) (hg : g.goal[i]? = some false) (hm : g.ms[i].l.length = 0) : rkO rk i = -1 := by
  have h : LeastP g rk i hi g.ms[i].l.length (-1) (-1) := by rw [hm]; exact .nil
  rcases h.rank hr hrk hg with ⟨_, h⟩ | ⟨h, _⟩
  · exact h
  · omega
theorem RanksP.isGoal (hr : RightP g) (hrk : RanksP g rk) (hi : i < g.goal.length) (h0 : rkO rk i = 0) : g.goal[i]? = some true := by
  have := hrk.wins hi (by omega)
  rw [h0] at this
  exact this
end
/-- What row finds. -/
inductive FndP (rows : List Rw) (pos : Int) : Rw → Bool → Prop
  | yes (x : Rw) (hx : x ∈ rows) (hp : x.pos = pos) : FndP rows pos x true
  | no (h : ∀ y ∈ rows, y.pos ≠ pos) : FndP rows pos ⟨0, 0, 0⟩ false
section
variable {g : Gm} {rk : List Int} {i : Nat} {rows : List Rw}
theorem FndP.row (h : RowsTo g rk g.goal.length rows) {pos : Int} {x : Rw} (hf : FndP rows pos x true) : ∃ i : Nat, i < g.goal.length ∧ pos = i ∧ RowP g rk i x := by
  cases hf with
  | yes x hx hp =>
    obtain ⟨i, hi, hr⟩ := h.mem hx
    exact ⟨i, hi, by rw [← hp, hr.pos], hr⟩
theorem FndP.found (h : RowsTo g rk g.goal.length rows) (hi : i < g.goal.length) (h0 : 0 ≤ rkO rk i) {x : Rw} {ok : Bool} (hf : FndP rows i x ok) : ok = true ∧ RowP g rk i x := by
  obtain ⟨y, hy, hp⟩ := h.has hi h0
  cases hf with
  | yes x hx hp' =>
    obtain ⟨j, hj, hr⟩ := h.mem hx
    have := hr.pos
    obtain rfl : i = j := by omega
    exact ⟨rfl, hr⟩
  | no hn => exact absurd hp.pos (hn y hy)
theorem FndP.unique (h : RowsTo g rk g.goal.length rows) {pos : Int} {x y : Rw} {u v : Bool} (hf : FndP rows pos x u) (hf' : FndP rows pos y v) : x = y ∧ u = v := by
  cases hf with
  | yes _ hx hp =>
    cases hf' with
    | yes _ hy hp' =>
      obtain ⟨i, hi, hr⟩ := h.mem hx
      obtain ⟨j, hj, hr'⟩ := h.mem hy
      have h1 := hr.pos
      have h2 := hr'.pos
      obtain rfl : i = j := by omega
      exact ⟨hr.unique hr', rfl⟩
    | no hn => exact absurd hp (hn _ hx)
  | no hn =>
    cases hf' with
    | yes _ hy hp' => exact absurd hp' (hn _ hy)
    | no _ => exact ⟨rfl, rfl⟩
end
end Go.Proofs.Ythakebelpnfinaa

/- Plain facts about the network's model: what NetHonest, NetSides and NetOrders say, without the program. -/
import Derived.Test.YtaocpjdhhjampaaSxJ
import Derived.Test.YtaocpjdhhjampaaN8
set_option linter.unusedVariables false
set_option linter.unusedSimpArgs false
namespace Go.Proofs.Ytaocpjdhhjampaa
open Go.RowKit Go.Sx

theorem kd_lt (o : Oc) : 0 ≤ kd o ∧ kd o < 8 := by rw [kd, and7]; omega
theorem cnt_app (l m : List Pk) (x : Pk) : cntN (l ++ m) x = cntN l x + cntN m x := by simp [cntN]
theorem cnt_one (y x : Pk) : cntN [y] x = if eqPk y x then 1 else 0 := by simp [cntN, List.countP_cons]
theorem cnt_erase (l : List Pk) (k : Nat) (hk : k < l.length) (x : Pk) : cntN l x = cntN (l.eraseIdx k) x + cntN [l[k]] x := by
  have e : l = l.take k ++ (l[k] :: l.drop (k + 1)) := by rw [← List.drop_eq_getElem_cons hk, List.take_append_drop]
  have h1 : cntN l x = cntN (l.take k) x + cntN (l[k] :: l.drop (k + 1)) x := by rw [← cnt_app, ← e]
  have h2 : cntN (l[k] :: l.drop (k + 1)) x = cntN [l[k]] x + cntN (l.drop (k + 1)) x := by rw [← cnt_app]; rfl
  rw [h1, h2, List.eraseIdx_eq_take_drop_succ, cnt_app]; omega
theorem cnt_erase_le (l : List Pk) (k : Nat) (x : Pk) : cntN (l.eraseIdx k) x ≤ cntN l x := by
  by_cases hk : k < l.length
  · rw [cnt_erase l k hk x]; omega
  · rw [List.eraseIdx_of_length_le (by omega)]; exact Nat.le_refl _
theorem cnt_le (l : List Pk) (x : Pk) : cntN l x ≤ l.length := List.countP_le_length

/-- What NetHonest keeps: what was delivered and what is in flight was made. -/
def Honest (s : NS) (made got : List Pk) : Prop := ∀ x, cntN (got ++ s.l) x ≤ cntN made x

theorem step_err (s : NS) (o : Oc) (h : (stepN s o).1.2 ≠ 0) : (stepN s o).1.1 = zeroPk ∧ ∀ x, cntN (stepN s o).2.l x ≤ cntN s.l x := by
  unfold stepN at h ⊢
  split
  · rename_i h3
    rw [if_pos h3] at h
    unfold deliverN at h ⊢
    cases ha : atN s o.n with
    | none => exact ⟨rfl, fun x => Nat.le_refl _⟩
    | some y =>
      rw [ha] at h
      dsimp only at h ⊢
      split
      · rename_i hh; rw [if_pos hh] at h; exact absurd rfl h
      · exact ⟨rfl, fun x => cnt_erase_le _ _ _⟩
  · rename_i h3
    rw [if_neg h3] at h
    split
    · rename_i h4
      rw [if_pos h4] at h
      unfold dropN at h ⊢
      cases ha : atN s o.n with
      | none => exact ⟨rfl, fun x => Nat.le_refl _⟩
      | some y => rw [ha] at h; exact absurd rfl h
    · rename_i h4
      rw [if_neg h4] at h
      split
      · rename_i h5
        rw [if_pos h5] at h
        unfold doubleN at h ⊢
        cases ha : atN s o.n with
        | none => exact ⟨rfl, fun x => Nat.le_refl _⟩
        | some y =>
          rw [ha] at h
          dsimp only at h ⊢
          split
          · rename_i hh; rw [if_pos hh] at h; exact absurd rfl h
          · exact ⟨rfl, fun x => Nat.le_refl _⟩
      · rename_i h5
        rw [if_neg h5] at h
        split
        · rename_i h6; rw [if_pos h6] at h; exact absurd rfl h
        · rename_i h6
          rw [if_neg h6] at h
          split
          · rename_i h7; rw [if_pos h7] at h; exact absurd rfl h
          · rename_i h7
            rw [if_neg h7] at h
            unfold sendN at h ⊢
            split
            · rename_i ha
              rw [if_pos ha] at h
              split
              · rename_i hb
                rw [if_pos hb] at h
                split
                · rename_i hc; rw [if_pos hc] at h; exact absurd rfl h
                · exact ⟨rfl, fun x => Nat.le_refl _⟩
              · exact ⟨rfl, fun x => Nat.le_refl _⟩
            · exact ⟨rfl, fun x => Nat.le_refl _⟩
/-- A packet sent. -/
theorem step_send (s : NS) (o : Oc) (h : (stepN s o).1.2 = 0) (hk : kd o < 3) : (stepN s o).2 = ⟨s.l ++ [⟨o.n, o.to, o.s⟩], s.sp⟩ ∧ hearB s.sp o.n o.to = true ∧ o.n ≠ o.to := by
  unfold stepN at h ⊢
  rw [if_neg (by omega), if_neg (by omega), if_neg (by omega), if_neg (by omega), if_neg (by omega)] at h ⊢
  unfold sendN at h ⊢
  split
  · rename_i ha
    rw [if_pos ha] at h
    split
    · rename_i hb
      rw [if_pos hb] at h
      split
      · exact ⟨rfl, hb, ha.2.2⟩
      · rename_i hc; rw [if_neg hc] at h; cases h
    · rename_i hb; rw [if_neg hb] at h; cases h
  · rename_i ha; rw [if_neg ha] at h; cases h
theorem at_some {s : NS} {i : Int} {y : Pk} (h : atN s i = some y) : ∃ hk : 0 ≤ i ∧ i < s.l.length, s.l[i.toNat]'(by omega) = y := by
  unfold atN at h
  split at h
  · rename_i h0
    have := (List.getElem?_eq_some_iff.1 h)
    exact ⟨⟨h0, by obtain ⟨h1, _⟩ := this; omega⟩, this.2⟩
  · cases h
/-- A packet delivered. -/
theorem step_deliver (s : NS) (o : Oc) (h : (stepN s o).1.2 = 0) (hk : kd o = 3) : hearB (stepN s o).2.sp (stepN s o).1.1.fr (stepN s o).1.1.to = true ∧ ∀ x, cntN [(stepN s o).1.1] x + cntN (stepN s o).2.l x ≤ cntN s.l x := by
  unfold stepN at h ⊢
  rw [if_pos hk] at h ⊢
  unfold deliverN at h ⊢
  cases ha : atN s o.n with
  | none => rw [ha] at h; cases h
  | some y =>
    rw [ha] at h
    dsimp only at h ⊢
    obtain ⟨hk', rfl⟩ := at_some ha
    split
    · rename_i hh
      refine ⟨hh, fun x => ?_⟩
      have := cnt_erase s.l o.n.toNat (by omega) x
      dsimp only [rmN]
      omega
    · rename_i hh; rw [if_neg hh] at h; cases h
/-- A packet doubled. -/
theorem step_double (s : NS) (o : Oc) (h : (stepN s o).1.2 = 0) (hk : kd o = 5) : ∃ hk : 0 ≤ o.n ∧ o.n < s.l.length, (stepN s o).2 = ⟨s.l ++ [s.l[o.n.toNat]'(by omega)], s.sp⟩ := by
  unfold stepN at h ⊢
  rw [if_neg (by omega), if_neg (by omega), if_pos hk] at h ⊢
  unfold doubleN at h ⊢
  cases ha : atN s o.n with
  | none => rw [ha] at h; cases h
  | some y =>
    rw [ha] at h
    dsimp only at h ⊢
    obtain ⟨hk', rfl⟩ := at_some ha
    refine ⟨hk', ?_⟩
    split
    · rfl
    · rename_i hh; rw [if_neg hh] at h; cases h
/-- Anything else makes nothing. -/
theorem step_rest (s : NS) (o : Oc) (h3 : ¬ kd o < 3) (h3' : ¬ kd o = 3) (h5 : ¬ kd o = 5) : ∀ x, cntN (stepN s o).2.l x ≤ cntN s.l x := by
  have hb := kd_lt o
  intro x
  unfold stepN
  rw [if_neg h3']
  split
  · unfold dropN
    cases atN s o.n with
    | none => exact Nat.le_refl _
    | some y => exact cnt_erase_le _ _ _
  · split
    · exact Nat.le_refl _
    · rw [if_pos (by omega)]; exact Nat.le_refl _
theorem honest_le {s s' : NS} {made got : List Pk} (h : Honest s made got) (hc : ∀ x, cntN s'.l x ≤ cntN s.l x) : Honest s' made got := fun x => by
  have := h x; have := hc x; rw [cnt_app] at *; omega
theorem honest_add {s s' : NS} {made got : List Pk} {y : Pk} (h : Honest s made got) (hc : s'.l = s.l ++ [y]) : Honest s' (made ++ [y]) got := fun x => by
  have := h x; rw [hc]; simp only [cnt_app] at *; omega
theorem honest_got {s s' : NS} {made got : List Pk} {y : Pk} (h : Honest s made got) (hc : ∀ x, cntN [y] x + cntN s'.l x ≤ cntN s.l x) : Honest s' made (got ++ [y]) := fun x => by
  have := h x; have := hc x; simp only [cnt_app] at *; omega
end Go.Proofs.Ytaocpjdhhjampaa

/- Two games put side by side: their ranks and rows. -/
import Derived.Test.YthakebelpnfinaaG18
set_option linter.unusedVariables false
set_option linter.unusedSimpArgs false
set_option linter.unusedSectionVars false
namespace Go.Proofs.Ythakebelpnfinaa
open Go.RowKit Go.Sx

def shI (n : Nat) (to : List Int) : List Int := to.map fun x => x + (n : Int)
def shM (n : Nat) (l : List (Int × List Int)) : List (Int × List Int) := l.map fun x => (x.1, shI n x.2)
def shR (n : Nat) (x : Rw) : Rw := ⟨x.pos + n, x.act, x.rank⟩
theorem shI_len (n : Nat) (to : List Int) : (shI n to).length = to.length := by simp [shI]
theorem shI_add (n : Nat) (to : List Int) (x : Int) : shI n (to ++ [x]) = shI n to ++ [x + n] := by simp [shI]
theorem shI_get (n : Nat) (to : List Int) (j : Nat) (hj : j < (shI n to).length) : (shI n to)[j] = to[j]'(by rw [← shI_len n to]; exact hj) + n := by simp [shI]
theorem shI_asc {n m : Nat} {to : List Int} (h : AscP m to) : AscP (n + m) (shI n to) := by
  intro j hj
  have hj' : j < to.length := by rwa [shI_len] at hj
  obtain ⟨h0, h1, h2⟩ := h j hj'
  rw [shI_get]
  refine ⟨by omega, by omega, fun hp => ?_⟩
  rw [shI_get]
  have := h2 hp
  omega
theorem AscP.mono {n m : Nat} {to : List Int} (h : AscP n to) (hnm : n ≤ m) : AscP m to := fun j hj => by
  obtain ⟨h0, h1, h2⟩ := h j hj
  exact ⟨h0, by omega, h2⟩
/-- b is g, and h behind it. -/
structure JoinP (g h b : Gm) : Prop where
  goal : b.goal = g.goal ++ h.goal
  ms : b.ms.length = g.ms.length + h.ms.length
  lt : ∀ i, i < g.ms.length → ∀ k, mvAt b i k = mvAt g i k
  ge : ∀ j, j < h.ms.length → ∀ k, mvAt b (g.ms.length + j) k = (mvAt h j k).map fun x => (x.1, shI g.ms.length x.2)
theorem join_of {g h b : Gm} (hg : b.goal = g.goal ++ h.goal) (hm : (b.ms.map fun x => rowM x.l) = (g.ms.map fun x => rowM x.l) ++ h.ms.map (fun x => shM g.ms.length (rowM x.l))) : JoinP g h b := by
  refine ⟨hg, by have := congrArg List.length hm; simpa using this, fun i hi k => ?_, fun j hj k => ?_⟩
  · rw [mvAt_rowM, mvAt_rowM, hm, List.getElem?_append_left (by simpa using hi)]
  · rw [mvAt_rowM, mvAt_rowM, hm, List.getElem?_append_right (by simp), List.length_map, Nat.add_sub_cancel_left]
    simp only [List.getElem?_map]
    cases h.ms[j]? <;> simp [shM]
section
variable {g h b : Gm} (hj : JoinP g h b) (hg : RightP g) (hh : RightP h)
include hj hg hh
theorem JoinP.glen : b.goal.length = g.ms.length + h.ms.length := by rw [hj.goal, List.length_append, hg.len, hh.len]
theorem JoinP.right (hb : b.goal.length ≤ 2000000) : RightP b := by
  have hgl := hj.glen hg hh
  refine RightP.of (by rw [hgl, hj.ms]) hb fun i k a to hm => ?_
  obtain ⟨hib, _, _, _⟩ := mvAt_some.1 hm
  rw [hj.ms] at hib
  rcases Nat.lt_or_ge i g.ms.length with hi | hi
  · rw [hj.lt i hi] at hm
    obtain ⟨h1, h2, h3, h4⟩ := hg.at hm
    exact ⟨h1, fun h0 => by rw [hj.lt i hi]; exact h2 h0, h3, h4.mono (by rw [hgl, hg.len]; omega)⟩
  · obtain ⟨j, rfl⟩ : ∃ j, i = g.ms.length + j := ⟨i - g.ms.length, by omega⟩
    have hjh : j < h.ms.length := by omega
    rw [hj.ge j hjh] at hm
    obtain ⟨⟨a', to'⟩, hm', he⟩ := Option.map_eq_some_iff.1 hm
    simp only [Prod.mk.injEq] at he
    obtain ⟨rfl, rfl⟩ := he
    obtain ⟨h1, h2, h3, h4⟩ := hh.at hm'
    refine ⟨h1, fun h0 => ?_, fun h => h3 (List.eq_nil_of_length_eq_zero (by rw [← shI_len g.ms.length, h]; rfl)), ?_⟩
    · obtain ⟨a2, to2, h5, h6⟩ := h2 h0
      exact ⟨a2, shI g.ms.length to2, by rw [hj.ge j hjh, h5]; rfl, h6⟩
    · rw [hgl, ← hh.len]; exact shI_asc h4
theorem JoinP.win_l (r i : Nat) (hi : i < g.ms.length) : win b r i ↔ win g r i := by
  constructor
  · refine win_rel (fun i i' => i = i' ∧ i < g.ms.length) ?_ ?_ r i i ⟨rfl, hi⟩
    · rintro i _ ⟨rfl, h1⟩ h2
      rwa [hj.goal, List.getElem?_append_left (by rw [hg.len]; exact h1)] at h2
    · rintro i _ ⟨rfl, h1⟩ k a to h2
      rw [hj.lt i h1] at h2
      exact ⟨k, a, to, h2, fun t ht => ⟨t, ht, rfl, by have := hg.ans h2 t ht; rw [hg.len] at this; omega⟩⟩
  · refine win_rel (fun i i' => i = i' ∧ i < g.ms.length) ?_ ?_ r i i ⟨rfl, hi⟩
    · rintro i _ ⟨rfl, h1⟩ h2
      rwa [hj.goal, List.getElem?_append_left (by rw [hg.len]; exact h1)]
    · rintro i _ ⟨rfl, h1⟩ k a to h2
      exact ⟨k, a, to, by rw [hj.lt i h1]; exact h2, fun t ht => ⟨t, ht, rfl, by have := hg.ans h2 t ht; rw [hg.len] at this; omega⟩⟩
theorem JoinP.win_r (r j : Nat) (hjh : j < h.ms.length) : win b r (g.ms.length + j) ↔ win h r j := by
  constructor
  · refine win_rel (fun i i' => i = g.ms.length + i' ∧ i' < h.ms.length) ?_ ?_ r _ j ⟨rfl, hjh⟩
    · rintro _ i ⟨rfl, h1⟩ h2
      rwa [hj.goal, List.getElem?_append_right (by rw [hg.len]; omega), hg.len, Nat.add_sub_cancel_left] at h2
    · rintro _ i ⟨rfl, h1⟩ k a to h2
      rw [hj.ge i h1] at h2
      obtain ⟨⟨a', to'⟩, hm', he⟩ := Option.map_eq_some_iff.1 h2
      simp only [Prod.mk.injEq] at he
      obtain ⟨rfl, rfl⟩ := he
      refine ⟨k, a', to', hm', fun t ht => ⟨t + g.ms.length, List.mem_map.2 ⟨t, ht, rfl⟩, ?_⟩⟩
      have := hh.ans hm' t ht
      rw [hh.len] at this
      omega
  · refine win_rel (fun i i' => i' = g.ms.length + i ∧ i < h.ms.length) ?_ ?_ r j _ ⟨rfl, hjh⟩
    · rintro i _ ⟨rfl, h1⟩ h2
      rwa [hj.goal, List.getElem?_append_right (by rw [hg.len]; omega), hg.len, Nat.add_sub_cancel_left]
    · rintro i _ ⟨rfl, h1⟩ k a to h2
      refine ⟨k, a, shI g.ms.length to, by rw [hj.ge i h1, h2]; rfl, fun t' ht => ?_⟩
      obtain ⟨t, ht2, rfl⟩ := List.mem_map.1 ht
      refine ⟨t, ht2, ?_⟩
      have := hh.ans h2 t ht2
      rw [hh.len] at this
      omega
theorem JoinP.ranks {rg rh : List Int} (h1 : RanksP g rg) (h2 : RanksP h rh) : RanksP b (rg ++ rh) := by
  have hgl := hj.glen hg hh
  have l1 : rg.length = g.ms.length := by rw [h1.len, hg.len]
  have l2 : rh.length = h.ms.length := by rw [h2.len, hh.len]
  have key : ∀ (i : Nat) (hi : i < (rg ++ rh).length), (rg ++ rh)[i] ≤ b.goal.length ∧ RkP b i (rg ++ rh)[i] := by
    intro i hi
    rw [List.getElem_append]
    split
    · rename_i hlt
      refine ⟨by have := h1.ub i hlt; rw [hgl]; rw [hg.len] at this; omega, ?_⟩
      rcases h1.rk i hlt with ⟨e, hn⟩ | ⟨r, e, hw, hn⟩
      · exact .inl ⟨e, fun r hr => hn r ((hj.win_l hg hh r i (by omega)).1 hr)⟩
      · exact .inr ⟨r, e, (hj.win_l hg hh r i (by omega)).2 hw, fun s hs hr => hn s hs ((hj.win_l hg hh s i (by omega)).1 hr)⟩
    · rename_i hge
      have hlt : i - rg.length < rh.length := by simp at hi; omega
      have hi' : i = g.ms.length + (i - rg.length) := by omega
      refine ⟨by have := h2.ub _ hlt; rw [hgl]; rw [hh.len] at this; omega, ?_⟩
      have hw_ : ∀ r, win b r i ↔ win h r (i - rg.length) := fun r => by
        have := hj.win_r hg hh r (i - rg.length) (by omega)
        rwa [← hi'] at this
      rcases h2.rk _ hlt with ⟨e, hn⟩ | ⟨r, e, hw, hn⟩
      · exact .inl ⟨e, fun r hr => hn r ((hw_ r).1 hr)⟩
      · exact .inr ⟨r, e, (hw_ r).2 hw, fun s hs hr => hn s hs ((hw_ s).1 hr)⟩
  exact ⟨by rw [hgl, List.length_append, l1, l2], fun i hi => (key i hi).1, fun i hi => (key i hi).2⟩
end
theorem rkO_l {rg rh : List Int} {x : Int} (h0 : 0 ≤ x) (h1 : x < rg.length) : rkO (rg ++ rh) x = rkO rg x := by
  simp only [rkO, List.getD_eq_getElem?_getD]
  rw [List.getElem?_append_left (by omega)]
theorem rkO_r {rg rh : List Int} {x : Int} (h0 : 0 ≤ x) : rkO (rg ++ rh) (x + rg.length) = rkO rh x := by
  simp only [rkO, List.getD_eq_getElem?_getD]
  rw [List.getElem?_append_right (by omega), show (x + (rg.length : Int)).toNat - rg.length = x.toNat by omega]
theorem within_l {rg rh to : List Int} {r : Int} (h : ∀ t ∈ to, 0 ≤ t ∧ t < rg.length) : WithinP (rg ++ rh) to r ↔ WithinP rg to r := by
  constructor
  · intro hw j hj
    obtain ⟨h0, h1⟩ := h _ (List.getElem_mem hj)
    have := hw j hj
    rwa [rkO_l h0 h1] at this
  · intro hw j hj
    obtain ⟨h0, h1⟩ := h _ (List.getElem_mem hj)
    rw [rkO_l h0 h1]; exact hw j hj
theorem within_r {rg rh to : List Int} {r : Int} (h : ∀ t ∈ to, 0 ≤ t) : WithinP (rg ++ rh) (shI rg.length to) r ↔ WithinP rh to r := by
  constructor
  · intro hw j hj
    have := hw j (by rw [shI_len]; exact hj)
    rwa [shI_get, rkO_r (h _ (List.getElem_mem hj))] at this
  · intro hw j hj
    have hj' : j < to.length := by rwa [shI_len] at hj
    rw [shI_get, rkO_r (h _ (List.getElem_mem hj'))]
    exact hw j hj'
theorem RowP.moveM {g : Gm} {rk : List Int} {i k : Nat} {a : Int} {to : List Int} (h : 0 < rkO rk i) (hm : mvAt g i k = some (a, to)) (hw : WithinP rk to (rkO rk i - 1)) (hn : ∀ q a' to', q < k → mvAt g i q = some (a', to') → ¬ WithinP rk to' (rkO rk i - 1)) : RowP g rk i ⟨i, a, rkO rk i⟩ := by
  obtain ⟨hi, hk, rfl, rfl⟩ := mvAt_some.1 hm
  exact .move h hi k hk ⟨hw, fun q hq hqk => hn q _ _ hqk (mvAt_get hi hq)⟩
section
variable {g h b : Gm} (hj : JoinP g h b) (hg : RightP g) (hh : RightP h) {rg rh : List Int} (h1 : RanksP g rg) (h2 : RanksP h rh)
include hj hg hh h1 h2
theorem JoinP.row_l {i : Nat} {x : Rw} (hx : RowP g rg i x) (hi : i < g.ms.length) : RowP b (rg ++ rh) i x := by
  have l1 : rg.length = g.ms.length := by rw [h1.len, hg.len]
  have e : rkO (rg ++ rh) i = rkO rg i := rkO_l (by omega) (by omega)
  cases hx with
  | goal h => exact .goal (by rw [e]; exact h)
  | move h0 hi' k hk hgk =>
    have hin : ∀ k a to, mvAt g i k = some (a, to) → ∀ t ∈ to, 0 ≤ t ∧ t < rg.length := fun k a to hm t ht => by
      have := hg.ans hm t ht
      rw [hg.len] at this; omega
    rw [← e]
    refine RowP.moveM (by rw [e]; exact h0) (by rw [hj.lt i hi]; exact mvAt_get hi' hk) ?_ fun q a' to' hq hm => ?_
    · rw [e, within_l (hin k _ _ (mvAt_get hi' hk))]; exact hgk.1
    · rw [hj.lt i hi] at hm
      rw [e, within_l (hin q _ _ hm)]
      obtain ⟨_, hq', _, rfl⟩ := mvAt_some.1 hm
      exact hgk.2 q hq' hq
theorem JoinP.row_r {j : Nat} {x : Rw} (hx : RowP h rh j x) (hjh : j < h.ms.length) : RowP b (rg ++ rh) (g.ms.length + j) (shR g.ms.length x) := by
  have l1 : rg.length = g.ms.length := by rw [h1.len, hg.len]
  have e : rkO (rg ++ rh) ((g.ms.length + j : Nat) : Int) = rkO rh j := by
    have := rkO_r (rg := rg) (rh := rh) (x := j) (by omega)
    rw [← this]; congr 1; omega
  cases hx with
  | goal h =>
    have : shR g.ms.length ⟨(j : Int), -1, 0⟩ = ⟨((g.ms.length + j : Nat) : Int), -1, 0⟩ := by simp only [shR, Rw.mk.injEq, and_true]; omega
    rw [this]
    exact .goal (by rw [e]; exact h)
  | move h0 hi' k hk hgk =>
    have hin : ∀ k a to, mvAt h j k = some (a, to) → ∀ t ∈ to, 0 ≤ t := fun k a to hm t ht => (hh.ans hm t ht).1
    have : shR g.ms.length ⟨(j : Int), h.ms[j].l[k].act, rkO rh j⟩ = ⟨((g.ms.length + j : Nat) : Int), h.ms[j].l[k].act, rkO (rg ++ rh) ((g.ms.length + j : Nat) : Int)⟩ := by rw [e]; simp only [shR, Rw.mk.injEq, and_true]; omega
    rw [this]
    refine RowP.moveM (to := shI g.ms.length h.ms[j].l[k].to) (k := k) (by rw [e]; exact h0) (by rw [hj.ge j hjh, mvAt_get hi' hk]; rfl) ?_ fun q a' to' hq hm => ?_
    · rw [e, ← l1, within_r (hin k _ _ (mvAt_get hi' hk))]; exact hgk.1
    · rw [hj.ge j hjh] at hm
      obtain ⟨⟨a2, to2⟩, hm', he⟩ := Option.map_eq_some_iff.1 hm
      simp only [Prod.mk.injEq] at he
      obtain ⟨rfl, rfl⟩ := he
      rw [e, ← l1, within_r (hin q _ _ hm')]
      obtain ⟨_, hq', _, rfl⟩ := mvAt_some.1 hm'
      exact hgk.2 q hq' hq
theorem JoinP.rows_l {m : Nat} {rows : List Rw} (hr : RowsTo g rg m rows) (hm : m ≤ g.ms.length) : RowsTo b (rg ++ rh) m rows := by
  have l1 : rg.length = g.ms.length := by rw [h1.len, hg.len]
  induction hr with
  | zero => exact .zero
  | skip h hl ih => exact .skip (by rw [rkO_l (by omega) (by omega)]; exact h) (ih (by omega))
  | add h hl ih => exact .add (hj.row_l hg hh h1 h2 h (by omega)) (ih (by omega))
theorem JoinP.rows_r {rg_ : List Rw} (hr0 : RowsTo b (rg ++ rh) g.ms.length rg_) {m : Nat} {rows : List Rw} (hr : RowsTo h rh m rows) (hm : m ≤ h.ms.length) : RowsTo b (rg ++ rh) (g.ms.length + m) (rg_ ++ rows.map (shR g.ms.length)) := by
  have l1 : rg.length = g.ms.length := by rw [h1.len, hg.len]
  induction hr with
  | zero => simpa using hr0
  | @skip m l h hl ih =>
    refine .skip ?_ (ih (by omega))
    have := rkO_r (rg := rg) (rh := rh) (x := m) (by omega)
    rw [← this] at h
    have e : ((g.ms.length + m : Nat) : Int) = (m : Int) + rg.length := by omega
    show rkO (rg ++ rh) ((g.ms.length + m : Nat) : Int) < 0
    rw [e]; exact h
  | @add m l x h hl ih =>
    rw [List.map_append, ← List.append_assoc]
    exact .add (hj.row_r hg hh h1 h2 h (by omega)) (ih (by omega))
end
end Go.Proofs.Ythakebelpnfinaa

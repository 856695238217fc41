/- A scheduled crash: the plain law of DiskArms. -/
import Derived.Test.YtbonfpoingibhaaE1
set_option linter.unusedVariables false
set_option linter.unusedSimpArgs false
namespace Go.Dk
open Go.Sx Go.Proofs.Ytbonfpoingibhaa

/-- The disk, armed. -/
def setA (st : DS) (n : Int) (keep : List Int) : DS := { st with armed := n, keep := keep }
theorem setA_may (st : DS) (n : Int) (keep : List Int) (f : Int) : mayE (setA st n keep) f = mayE st f := rfl
theorem setA_wrE (st : DS) (n : Int) (keep : List Int) (f a : Int) (s : Bs) : wrE (setA st n keep) f a s = wrE st f a s := rfl
theorem setA_wr (st : DS) (n : Int) (keep : List Int) (f a : Int) (s : Bs) : wr (setA st n keep) f a s = setA (wr st f a s) n keep := by
  unfold wr
  rw [setA_wrE]
  split
  · unfold addW
    split <;> rfl
  · rfl
theorem setA_sync1 (st : DS) (n : Int) (keep : List Int) (f : Int) : sync1E (setA st n keep) f = sync1E st f ∧ sync1 (setA st n keep) f = setA (sync1 st f) n keep := by
  refine ⟨rfl, ?_⟩
  unfold sync1
  rw [setA_may]
  split
  · rfl
  split
  · rename_i h; rw [if_pos (show 0 < st.lost from h)]; rfl
  · rename_i h; rw [if_neg (show ¬ 0 < st.lost from h)]; rfl
theorem setA_trunc1 (st : DS) (n : Int) (keep : List Int) (f m : Int) : trunc1E (setA st n keep) f m = trunc1E st f m ∧ trunc1 (setA st n keep) f m = setA (trunc1 st f m) n keep := by
  have e : trunc1E (setA st n keep) f m = trunc1E st f m := rfl
  refine ⟨e, ?_⟩
  unfold trunc1
  rw [e]
  split <;> rfl
theorem setA_ends (st : DS) (n : Int) (keep : List Int) (hd : st.down = false) (h : 1 < n) : endsB (setA st n keep) = false ∧ endsD (setA st n keep) = setA st (n - 1) keep := by
  have h1 : (setA st n keep).armed = n := rfl
  have h2 : (setA st n keep).down = false := hd
  refine ⟨by unfold endsB; rw [h1, decide_eq_false (by omega : ¬ n - 1 = 0), Bool.and_false], ?_⟩
  unfold endsD
  rw [if_neg (by rw [h1, h2]; simp; omega)]
  rfl
theorem setA_ends1 (st : DS) (keep : List Int) (hd : st.down = false) : endsB (setA st 1 keep) = true ∧ endsD (setA st 1 keep) = setA st 0 keep := by
  have h2 : (setA st 1 keep).down = false := hd
  refine ⟨by unfold endsB; rw [h2]; rfl, ?_⟩
  unfold endsD
  rw [if_neg (by rw [h2]; simp [setA])]
  rfl
/-- A disk that is up and not armed. -/
structure Free (st : DS) : Prop where
  down : st.down = false
  armed : st.armed = 0
variable {st : DS}
theorem Free.ends (h : Free st) : endsB st = false ∧ endsD st = st := ⟨by unfold endsB; rw [h.armed]; simp, by unfold endsD; rw [if_pos (.inr h.armed)]⟩
theorem Free.tick (h : Free st) : tick st = st := by unfold Dk.tick; rw [if_neg (by rw [h.ends.1]; decide), h.ends.2]
theorem Free.wr (h : Free st) (f a : Int) (s : Bs) : Free (wr st f a s) := by
  unfold Dk.wr
  split
  · unfold addW
    split
    · exact h
    · exact ⟨h.down, h.armed⟩
  · exact h
theorem Free.sync1 (h : Free st) (f : Int) : Free (sync1 st f) := by
  unfold Dk.sync1
  split
  · exact h
  split
  · exact ⟨h.down, h.armed⟩
  · exact ⟨h.down, h.armed⟩
theorem Free.trunc1 (h : Free st) (f n : Int) : Free (trunc1 st f n) := by
  unfold Dk.trunc1
  split
  · exact h
  · exact ⟨h.down, h.armed⟩
theorem tick_setA {n : Int} {keep : List Int} (h : st.down = false) (hn : 1 < n) : tick (setA st n keep) = setA st (n - 1) keep := by
  unfold tick; rw [if_neg (by rw [(setA_ends st n keep h hn).1]; decide), (setA_ends st n keep h hn).2]
/-- ahead of the crash -/
theorem arms_go (h : Free st) {a : Go.Proofs.Ytbonfpoingibhaa.Act} {n : Int} {keep : List Int} (hn : 1 < n) (h4 : a.d % 8 < 4) : doE (setA st n keep) a = doE st a ∧ doD (setA st n keep) a = setA (doD st a) (n - 1) keep ∧ Free (doD st a) := by
  unfold Go.Proofs.Ytbonfpoingibhaa.doE Go.Proofs.Ytbonfpoingibhaa.doD
  by_cases h2 : a.d % 8 = 2
  · simp only [if_pos h2]
    unfold syncE syncD
    rw [tick_setA h.down hn, h.tick]
    exact ⟨(setA_sync1 _ _ _ _).1, (setA_sync1 _ _ _ _).2, h.sync1 _⟩
  simp only [if_neg h2]
  by_cases h3 : a.d % 8 = 3
  · simp only [if_pos h3]
    unfold truncE truncD
    rw [tick_setA h.down hn, h.tick]
    exact ⟨(setA_trunc1 _ _ _ _ _).1, (setA_trunc1 _ _ _ _ _).2, h.trunc1 _ _⟩
  simp only [if_neg h3, if_neg (show ¬ a.d % 8 = 4 by omega), if_neg (show ¬ a.d % 8 = 5 by omega), if_neg (show ¬ a.d % 8 = 6 by omega), if_neg (show ¬ a.d % 8 = 7 by omega)]
  have e1 := setA_ends st n keep h.down hn
  unfold writeE writeD
  rw [if_neg (by rw [e1.1]; decide), if_neg (by rw [h.ends.1]; decide), if_neg (by rw [e1.1]; decide), if_neg (by rw [h.ends.1]; decide), e1.2, h.ends.2]
  exact ⟨rfl, setA_wr _ _ _ _ _ _, h.wr _ _ _⟩
theorem arms_lose {s : DS} {a : Go.Proofs.Ytbonfpoingibhaa.Act} (h4 : a.d % 8 = 4) : doE s a = 0 ∧ doD s a = loseD s (a.n % 4) := by
  unfold Go.Proofs.Ytbonfpoingibhaa.doE Go.Proofs.Ytbonfpoingibhaa.doD
  rw [if_neg (by omega), if_neg (by omega), if_pos h4, if_neg (by omega), if_neg (by omega), if_pos h4]
  exact ⟨rfl, rfl⟩
theorem Free.lose (h : Free st) (n : Int) : Free (loseD st n) := ⟨h.down, h.armed⟩
theorem setA_lose (st : DS) (n : Int) (keep : List Int) (m : Int) : loseD (setA st n keep) m = setA (loseD st m) n keep := rfl
theorem setA_crash (st : DS) (n : Int) (keep k : List Int) (h : st.down = false) : SameP (crash (setA st n keep) k) (crash st k) ∧ (crash (setA st n keep) k).down = true ∧ (crash st k).down = true := by
  have h2 : (setA st n keep).down = false := h
  unfold crash
  rw [h, h2]
  exact ⟨⟨rfl, fun f => rfl⟩, rfl, rfl⟩
theorem down_same {s : DS} (h : s.down = true) {a : Go.Proofs.Ytbonfpoingibhaa.Act} (h4 : a.d % 8 < 4) : doE s a = 9 ∧ doD s a = s := by
  have e1 : endsB s = false := by unfold endsB; rw [h]; simp
  have e2 : endsD s = s := by unfold endsD; rw [if_pos (.inl h)]
  have hm : ∀ f, mayE s f = 9 := fun f => by unfold mayE; rw [if_pos h]
  have ht : tick s = s := by unfold tick; rw [if_neg (by rw [e1]; decide), e2]
  unfold Go.Proofs.Ytbonfpoingibhaa.doE Go.Proofs.Ytbonfpoingibhaa.doD
  by_cases h2 : a.d % 8 = 2
  · simp only [if_pos h2]
    unfold syncE syncD sync1E sync1
    rw [ht]
    simp [hm]
  simp only [if_neg h2]
  by_cases h3 : a.d % 8 = 3
  · simp only [if_pos h3]
    unfold truncE truncD trunc1E trunc1
    rw [ht]
    simp [hm, trunc1E]
  simp only [if_neg h3, if_neg (show ¬ a.d % 8 = 4 by omega), if_neg (show ¬ a.d % 8 = 5 by omega), if_neg (show ¬ a.d % 8 = 6 by omega), if_neg (show ¬ a.d % 8 = 7 by omega)]
  unfold writeE writeD
  rw [if_neg (by rw [e1]; decide), if_neg (by rw [e1]; decide), e2]
  unfold wr
  have : ∀ f a s', wrE s f a s' = 9 := fun f a s' => by unfold wrE; rw [hm]; rfl
  rw [this]
  exact ⟨rfl, rfl⟩
/-- the call in which the crash happens -/
theorem arms_now (h : Free st) {a : Go.Proofs.Ytbonfpoingibhaa.Act} {keep : List Int} (h4 : a.d % 8 < 4) : doE (setA st 1 keep) a = 9 ∧ (doD (setA st 1 keep) a).down = true ∧ SameP (doD (setA st 1 keep) a) (crash (if a.d % 8 < 2 then doD st a else st) keep) ∧ Free (if a.d % 8 < 2 then doD st a else st) := by
  have e1 := setA_ends1 st keep h.down
  have ht : tick (setA st 1 keep) = crash (setA st 0 keep) keep := by unfold tick; rw [if_pos e1.1, e1.2]; rfl
  have hc := setA_crash st 0 keep keep h.down
  have hm : ∀ f, mayE (crash (setA st 0 keep) keep) f = 9 := fun f => by unfold mayE; rw [if_pos hc.2.1]
  unfold Go.Proofs.Ytbonfpoingibhaa.doE Go.Proofs.Ytbonfpoingibhaa.doD
  by_cases h2 : a.d % 8 = 2
  · simp only [if_pos h2, if_neg (show ¬ a.d % 8 < 2 by omega)]
    unfold syncE syncD sync1E sync1
    rw [ht]
    simp only [hm]
    exact ⟨rfl, hc.2.1, hc.1, h⟩
  simp only [if_neg h2]
  by_cases h3 : a.d % 8 = 3
  · simp only [if_pos h3, if_neg (show ¬ a.d % 8 < 2 by omega)]
    have he : trunc1E (crash (setA st 0 keep) keep) a.f a.n = 9 := by unfold trunc1E; rw [hm]; rfl
    unfold truncE truncD trunc1
    rw [ht]
    simp only [he]
    exact ⟨trivial, hc.2.1, hc.1, h⟩
  simp only [if_neg h3, if_neg (show ¬ a.d % 8 = 4 by omega), if_neg (show ¬ a.d % 8 = 5 by omega), if_neg (show ¬ a.d % 8 = 6 by omega), if_neg (show ¬ a.d % 8 = 7 by omega), if_pos (show a.d % 8 < 2 by omega)]
  unfold writeE writeD
  rw [if_pos e1.1, if_pos e1.1, e1.2, if_neg (by rw [h.ends.1]; decide), h.ends.2, setA_wr]
  have hw := setA_crash (wr st a.f a.n a.s) 0 keep keep (h.wr _ _ _).down
  exact ⟨rfl, hw.2.1, hw.1, h.wr _ _ _⟩
end Go.Dk

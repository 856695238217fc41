/- What is synced stays: the plain law of DiskSynced. -/
import Derived.Test.YtbonfpoingibhaaE1
set_option linter.unusedVariables false
set_option linter.unusedSimpArgs false
namespace Go.Dk
open Go.Sx Go.Proofs.Ytbonfpoingibhaa

/-- A file that is durable. -/
structure Kept (st : DS) (f : Int) (x : Bs) : Prop where
  file : st.files f = ⟨x, x⟩
  q : ∀ p ∈ st.queue, p.1 ≠ f
variable {st : DS} {f : Int} {x : Bs}
theorem Kept.to {t : DS} (h : Kept st f x) (hf : t.files = st.files) (hq : t.queue = st.queue) : Kept t f x := ⟨by rw [hf]; exact h.file, by rw [hq]; exact h.q⟩
theorem Kept.wr (h : Kept st f x) {g : Int} (hg : g ≠ f) (a : Int) (s : Bs) : Kept (wr st g a s) f x := by
  unfold Dk.wr
  split
  · unfold addW
    split
    · exact h
    · refine ⟨?_, fun p hp => ?_⟩
      · simp only [upf]; rw [if_neg (fun e => hg e.symm)]; exact h.file
      · rcases (addQ_mem _ _).1 hp with hp | ⟨h1, _⟩
        · exact h.q p hp
        · rw [h1]; exact hg
  · exact h
theorem Kept.endsD (h : Kept st f x) : Kept (endsD st) f x := by
  unfold Dk.endsD; split
  · exact h
  · exact h.to rfl rfl
theorem steps_other {keep : List Int} : ∀ (q : List (Int × Int)) (i : Nat) (F : Int → Fl), (∀ p ∈ q, p.1 ≠ f) → steps keep i q F f = F f
  | [], _, _, _ => rfl
  | p :: q, i, F, h => by
    show steps keep (i + 1) q (step1 keep i p F) f = F f
    rw [steps_other q _ _ fun p' hp' => h p' (by simp [hp'])]
    unfold step1
    split
    · simp only [upf]; rw [if_neg (fun e => h p (by simp) e.symm)]
    · rfl
theorem Kept.crash (h : Kept st f x) (keep : List Int) : Kept (crash st keep) f x := by
  unfold Dk.crash
  split
  · exact h
  · refine ⟨?_, fun p hp => by cases hp⟩
    simp only [fin]
    rw [steps_other _ _ _ h.q, h.file]
theorem Kept.settle (h : Kept st f x) {g : Int} (hg : g ≠ f) (s : Bs) : Kept (settle st g s) f x := by
  refine ⟨?_, fun p hp => h.q p (List.mem_filter.1 hp).1⟩
  simp only [Dk.settle, upf]; rw [if_neg (fun e => hg e.symm)]; exact h.file
theorem Kept.tick (h : Kept st f x) : Kept (tick st) f x := by
  unfold Dk.tick; split
  · exact h.endsD.crash _
  · exact h.endsD
theorem Kept.doD (h : Kept st f x) (a : Go.Proofs.Ytbonfpoingibhaa.Act) (ha : a.d % 8 < 4 ∧ a.f ≠ f ∨ a.d % 8 = 4) : Kept (doD st a) f x := by
  unfold Go.Proofs.Ytbonfpoingibhaa.doD
  split
  · unfold syncD sync1
    split
    · exact h.tick
    split
    · exact h.tick.to rfl rfl
    · exact h.tick.settle (by omega) _
  split
  · unfold truncD trunc1
    split
    · exact h.tick
    · exact h.tick.settle (by omega) _
  split
  · exact h.to rfl rfl
  split
  · omega
  split
  · omega
  split
  · omega
  · unfold writeD
    split
    · exact (h.endsD.wr (by omega) _ _).crash _
    · exact h.endsD.wr (by omega) _ _
theorem Kept.read {t : DS} (h : Kept t f x) (ok : DOk t) (hd : t.down = false) (hf : 0 ≤ f ∧ f ≤ 15) : readE t f 0 16777216 = 0 ∧ readB t f 0 16777216 = x := by
  have := readB_all ok hd hf
  rw [h.file] at this
  exact this
theorem sync_law (h : syncE st f = 0) : st.down = false ∧ (0 ≤ f ∧ f ≤ 15) ∧ (syncD st f).down = false ∧ Kept (syncD st f) f (st.files f).now := by
  unfold syncE sync1E at h
  split at h
  · rename_i h1; exact absurd h h1
  rename_i h1
  split at h
  · cases h
  rename_i h2
  obtain ⟨d1, d2⟩ := may_in h1
  have he : endsB st = false := by
    cases he : endsB st with
    | false => rfl
    | true =>
      unfold tick at d1
      rw [if_pos he] at d1
      unfold Dk.crash at d1
      split at d1
      · rename_i h3; rw [h3] at d1; cases d1
      · cases d1
  have ht : tick st = endsD st := by unfold tick; rw [if_neg (by rw [he]; decide)]
  have hfl : (endsD st).files = st.files := by unfold Dk.endsD; split <;> rfl
  have hdn : (endsD st).down = st.down := by unfold Dk.endsD; split <;> rfl
  have e : syncD st f = settle (tick st) f ((tick st).files f).now := by unfold syncD sync1; rw [if_neg h1, if_neg h2]
  rw [e]
  rw [ht] at d1 ⊢
  refine ⟨by rw [← hdn]; exact d1, by omega, d1, ?_, fun p hp => ?_⟩
  · simp only [Dk.settle, upf, if_true, hfl]
  · have := (List.mem_filter.1 hp).2
    simpa using this
end Go.Dk

/- What was written is read: the plain law of DiskReads. -/
import Derived.Test.YtbonfpoingibhaaE1
set_option linter.unusedVariables false
set_option linter.unusedSimpArgs false
namespace Go.Dk
open Go.Sx Go.Proofs.Ytbonfpoingibhaa

theorem put_read (s t : Bs) (a : Nat) : ((put s a t).drop a).take t.length = t := by
  unfold put
  by_cases ht : t = []
  · rw [if_pos ht, ht]; rfl
  · rw [if_neg ht]
    have hl : ((s ++ List.replicate (a + t.length - s.length) 0).take a).length = a := by
      rw [List.length_take, List.length_append, List.length_replicate]; omega
    rw [List.append_assoc, List.drop_append_of_le_length (by omega), List.drop_eq_nil_of_le (by omega), List.nil_append, List.take_left]
/-- A disk that is up and not armed. -/
structure Calm (st : DS) (f : Int) : Prop where
  ok : DOk st
  down : st.down = false
  armed : st.armed = 0
  f : 0 ≤ f ∧ f ≤ 15
variable {st : DS} {f : Int}
theorem Calm.ends (h : Calm st f) : endsB st = false ∧ endsD st = st := ⟨by unfold endsB; rw [h.armed]; simp, by unfold endsD; rw [if_pos (.inr h.armed)]⟩
theorem Calm.may (h : Calm st f) : mayE st f = 0 := by
  have := h.f
  unfold mayE; rw [h.down, if_neg (by decide), if_neg (by omega)]
theorem Calm.tick (h : Calm st f) : tick st = st := by unfold Dk.tick; rw [if_neg (by rw [h.ends.1]; decide), h.ends.2]
theorem calm_write {a : Int} {s : Bs} (h : Calm st f) (h0 : 0 ≤ a) (h1 : a ≤ 3000) (hs : s.length ≤ 300) : writeE st f a s = 0 ∧ Calm (writeD st f a s) f ∧ ((writeD st f a s).files f).now = put (st.files f).now a.toNat s := by
  have hw : wrE st f a s = 0 := by
    unfold wrE
    rw [if_neg (by rw [h.may]; decide), if_neg (by omega), if_neg (fun h2 => h2 (by unfold fits; omega))]
  have e1 : writeE st f a s = 0 := by unfold writeE; rw [if_neg (by rw [h.ends.1]; decide), h.ends.2, hw]
  have e2 : writeD st f a s = addW st f a.toNat s := by
    unfold writeD wr; rw [if_neg (by rw [h.ends.1]; decide), h.ends.2, if_pos hw]
  refine ⟨e1, ⟨h.ok.write .., ?_, ?_, h.f⟩, ?_⟩
  · rw [e2]; unfold addW; split
    · exact h.down
    · exact h.down
  · rw [e2]; unfold addW; split
    · exact h.armed
    · exact h.armed
  · rw [e2]; unfold addW
    by_cases hn : s = []
    · rw [if_pos hn]; unfold put; rw [if_pos hn]
    · rw [if_neg hn]; simp [upf]
theorem calm_read {a n : Int} (h : Calm st f) (h0 : 0 ≤ a) (h1 : 0 ≤ n) : readE st f a n = 0 ∧ readB st f a n = ((st.files f).now.drop a.toNat).take n.toNat := by
  have he : readE st f a n = 0 := by unfold readE; rw [if_neg (by rw [h.may]; decide), if_neg (by omega)]
  exact ⟨he, by unfold readB; rw [if_neg (by rw [he]; decide)]⟩
theorem calm_trunc {n : Int} (h : Calm st f) (h0 : 0 ≤ n) (h1 : n ≤ (st.files f).now.length) : truncE st f n = 0 ∧ DOk (truncD st f n) ∧ (truncD st f n).files f = ⟨(st.files f).now.take n.toNat, (st.files f).now.take n.toNat⟩ := by
  have he : trunc1E st f n = 0 := by unfold trunc1E; rw [if_neg (by rw [h.may]; decide), if_neg (by omega)]
  refine ⟨by unfold truncE; rw [h.tick, he], h.ok.trunc .., ?_⟩
  unfold truncD trunc1
  rw [h.tick, if_neg (by rw [he]; decide)]
  simp [settle, upf]
theorem crash_none {st : DS} {f : Int} {x : Bs} (h : st.files f = ⟨x, x⟩) : (crash st []).files f = ⟨x, x⟩ := by
  unfold crash
  split
  · exact h
  · simp only [fin, steps_nil, h]
theorem part_eq {now : Bs} {a n : Int} (h0 : 0 ≤ a) (h1 : 0 ≤ n) : (now.drop a.toNat).take n.toNat = (now.take (min a now.length + min n (now.length - min a now.length)).toNat).drop (min a now.length).toNat := by
  rcases Int.le_total a now.length with h | h
  · rw [show min a (now.length : Int) = a by omega, List.drop_take]
    rcases Int.le_total n (now.length - a) with h2 | h2
    · rw [show min n ((now.length : Int) - a) = n by omega, show (a + n).toNat - a.toNat = n.toNat by omega]
    · rw [show min n ((now.length : Int) - a) = now.length - a by omega, List.take_of_length_le (by rw [List.length_drop]; omega), List.take_of_length_le (by rw [List.length_drop]; omega)]
  · rw [show min a (now.length : Int) = now.length by omega, List.drop_eq_nil_of_le (by omega), List.drop_eq_nil_of_le (by rw [List.length_take]; omega)]
    simp
end Go.Dk

/- What survives of a file: the plain law of DiskSurvives. -/
import Derived.Test.YtbonfpoingibhaaD10
set_option linter.unusedVariables false
set_option linter.unusedSimpArgs false
namespace Go.Dk
open Go.Sx Go.Proofs.Ytbonfpoingibhaa

theorem getD_put (s t : Bs) (a p : Nat) : (put s a t).getD p 0 = if a ≤ p ∧ p < a + t.length then t.getD (p - a) 0 else s.getD p 0 := by
  unfold put
  by_cases ht : t = []
  · subst ht
    rw [if_pos rfl, if_neg (by rw [List.length_nil]; omega)]
  · rw [if_neg ht]
    simp only [List.getD_eq_getElem?_getD]
    generalize hL : s ++ List.replicate (a + t.length - s.length) 0 = L
    have hLl : L.length = max s.length (a + t.length) := by rw [← hL, List.length_append, List.length_replicate]; omega
    have hLp : ∀ p : Nat, (L[p]?).getD 0 = (s[p]?).getD 0 := by
      intro p
      rw [← hL, List.getElem?_append]
      split
      · rfl
      · rename_i h
        rw [List.getElem?_eq_none (by omega : s.length ≤ p), List.getElem?_replicate]
        split <;> rfl
    rw [List.append_assoc, List.getElem?_append, List.length_take, Nat.min_eq_left (by omega)]
    by_cases h1 : p < a
    · rw [if_pos h1, if_neg (by omega), List.getElem?_take_of_lt h1]
      exact hLp p
    · rw [if_neg h1, List.getElem?_append]
      by_cases h2 : p - a < t.length
      · rw [if_pos h2, if_pos (by omega)]
      · rw [if_neg h2, if_neg (by omega), List.getElem?_drop, show a + t.length + (p - a - t.length) = p by omega]
        exact hLp p
theorem getD_sec (s : Bs) (n : Int) (h0 : 0 ≤ n) (j : Nat) (hj : j < 64) : (secOf s n).getD j 0 = s.getD ((64 * n).toNat + j) 0 := by
  simp only [secOf, List.getD_eq_getElem?_getD, List.getElem?_drop]
  rw [List.getElem?_take_of_lt (by omega)]
theorem sec_len (s : Bs) (n : Int) (h0 : 0 ≤ n) (h : 64 * n < s.length) : (secOf s n).length = min 64 (s.length - (64 * n).toNat) := by
  simp only [secOf, List.length_drop, List.length_take]; omega
/-- A file of which some sectors are as it is now. -/
structure Part (now last0 : Bs) (S : Int → Prop) (last : Bs) : Prop where
  lo : last0.length ≤ last.length
  hi : last.length ≤ now.length
  new : ∀ p : Nat, p < last.length → S ((p : Int) / 64) → last.getD p 0 = now.getD p 0
  old : ∀ p : Nat, p < last.length → ¬ S ((p : Int) / 64) → last.getD p 0 = last0.getD p 0
  len : ∀ n, 0 ≤ n → S n → 64 * n < now.length → min (64 * n + 64) (now.length : Int) ≤ last.length
theorem Part.zero {now last : Bs} (h : last.length ≤ now.length) : Part now last (fun _ => False) last := ⟨Nat.le_refl _, h, fun _ _ h => h.elim, fun _ _ _ => rfl, fun _ _ h => h.elim⟩
theorem Part.step {now last0 last : Bs} {S : Int → Prop} (h : Part now last0 S last) {n : Int} (h0 : 0 ≤ n) (hn : 64 * n < now.length) : Part now last0 (fun m => S m ∨ m = n) (put last (64 * n).toNat (secOf now n)) := by
  have hl := sec_len now n h0 hn
  have hne : ¬ secOf now n = [] := fun e => by rw [e] at hl; simp at hl; omega
  have hp : (put last (64 * n).toNat (secOf now n)).length = max last.length ((64 * n).toNat + (secOf now n).length) := by rw [put_len, if_neg hne]
  have h1 := h.lo
  have h2 := h.hi
  refine ⟨by omega, by omega, fun p hpl hS => ?_, fun p hpl hS => ?_, fun m hm hS hmn => ?_⟩
  · rw [getD_put]
    split
    · rename_i hin
      rw [getD_sec now n h0 _ (by omega), show (64 * n).toNat + (p - (64 * n).toNat) = p by omega]
    · rename_i hout
      rcases hS with hS | hS
      · by_cases hq : p < last.length
        · exact h.new p hq hS
        · have h3 := h.len _ (by omega) hS (by omega)
          omega
      · omega
  · rw [getD_put]
    have hS1 : ¬ S ((p : Int) / 64) := fun h => hS (.inl h)
    have hS2 : ¬ (p : Int) / 64 = n := fun h => hS (.inr h)
    rw [if_neg (by omega)]
    by_cases hq : p < last.length
    · exact h.old p hq hS1
    · rw [List.getD_eq_getElem?_getD, List.getD_eq_getElem?_getD, List.getElem?_eq_none (by omega), List.getElem?_eq_none (by omega)]
  · rcases hS with hS | hS
    · have := h.len m hm hS hmn
      omega
    · subst hS; omega
theorem steps_part {keep : List Int} {k : Int} {now last0 : Bs} : ∀ (q : List (Int × Int)) (i : Nat) (f : Int → Fl) (S : Int → Prop), (∀ p ∈ q, 0 ≤ p.2) → (f k).now = now → Part now last0 S (f k).last →
    ∃ S', (steps keep i q f k).now = now ∧ Part now last0 S' (steps keep i q f k).last ∧ (∀ n, S n → S' n) ∧ ((∀ j, surv keep j = true) → ∀ n, (k, n) ∈ q → 64 * n < now.length → S' n)
  | [], i, f, S, _, hn, hP => ⟨S, hn, hP, fun _ h => h, fun _ n hq => by cases hq⟩
  | p :: q, i, f, S, h0, hn, hP => by
    obtain ⟨p1, p2⟩ := p
    have h00 : 0 ≤ p2 := h0 (p1, p2) (by simp)
    show ∃ S', (steps keep (i + 1) q (step1 keep i (p1, p2) f) k).now = now ∧ Part now last0 S' (steps keep (i + 1) q (step1 keep i (p1, p2) f) k).last ∧ _
    by_cases hc : surv keep i = true ∧ 64 * p2 < (f p1).now.length
    · by_cases hk : k = p1
      · subst hk
        have e : step1 keep i (k, p2) f k = ⟨now, put (f k).last (64 * p2).toNat (secOf now p2)⟩ := by
          rw [step1, if_pos hc]; simp [upf, hn]
        rw [hn] at hc
        obtain ⟨S', a1, a2, a3, a4⟩ := steps_part (now := now) (last0 := last0) q (i + 1) (step1 keep i (k, p2) f) (fun m => S m ∨ m = p2) (fun x hx => h0 x (by simp [hx])) (by rw [e]) (by rw [e]; exact hP.step h00 hc.2)
        refine ⟨S', a1, a2, fun n h => a3 n (.inl h), fun ha n hm hl => ?_⟩
        rcases List.mem_cons.1 hm with hm | hm
        · have : n = p2 := by simpa using hm
          exact a3 n (.inr this)
        · exact a4 ha n hm hl
      · have e : step1 keep i (p1, p2) f k = f k := by
          rw [step1, if_pos hc]; simp [upf, hk]
        obtain ⟨S', a1, a2, a3, a4⟩ := steps_part (now := now) (last0 := last0) q (i + 1) (step1 keep i (p1, p2) f) S (fun x hx => h0 x (by simp [hx])) (by rw [e]; exact hn) (by rw [e]; exact hP)
        refine ⟨S', a1, a2, a3, fun ha n hm hl => ?_⟩
        rcases List.mem_cons.1 hm with hm | hm
        · exact absurd (congrArg Prod.fst hm) hk
        · exact a4 ha n hm hl
    · have e : step1 keep i (p1, p2) f = f := if_neg hc
      rw [e]
      obtain ⟨S', a1, a2, a3, a4⟩ := steps_part q (i + 1) f S (fun x hx => h0 x (by simp [hx])) hn hP
      refine ⟨S', a1, a2, a3, fun ha n hm hl => ?_⟩
      rcases List.mem_cons.1 hm with hm | hm
      · obtain ⟨rfl, rfl⟩ : k = p1 ∧ n = p2 := by simpa using hm
        exact absurd ⟨ha i, by rw [hn]; exact hl⟩ hc
      · exact a4 ha n hm hl
theorem steps_nil : ∀ (q : List (Int × Int)) (i : Nat) (f : Int → Fl), steps [] i q f = f
  | [], _, _ => rfl
  | p :: q, i, f => by
    show steps [] (i + 1) q (step1 [] i p f) = f
    rw [show step1 [] i p f = f from if_neg (by simp [surv]), steps_nil q]
/-- What is not pending is durable. -/
structure Inv (st : DS) : Prop where
  end_ : ∀ k, (st.files k).last.length < (st.files k).now.length → (k, (((st.files k).now.length : Int) - 1) / 64) ∈ st.queue
  same : ∀ k (p : Nat), p < (st.files k).now.length → (k, (p : Int) / 64) ∉ st.queue → (st.files k).now.getD p 0 = (st.files k).last.getD p 0
theorem Inv.to {s t : DS} (h : Inv s) (hf : t.files = s.files) (hq : t.queue = s.queue) : Inv t := ⟨by rw [hf, hq]; exact h.end_, by rw [hf, hq]; exact h.same⟩
theorem Inv.st0 : Inv st0 := ⟨fun k h => by simp [Dk.st0, fl0] at h, fun k p h => by simp [Dk.st0, fl0] at h⟩
theorem Inv.addW {st : DS} (h : Inv st) (ok : DOk st) (f : Int) (a : Nat) (s : Bs) : Inv (addW st f a s) := by
  unfold Dk.addW
  by_cases hs : s = []
  · rw [if_pos hs]; exact h
  rw [if_neg hs]
  have hsl : 0 < s.length := List.length_pos_iff.2 hs
  have hok := ok.fl f
  refine ⟨fun k => ?_, fun k p => ?_⟩
  · simp only [upf]
    by_cases hk : k = f
    · subst hk
      simp only [if_true, put_len, if_neg hs]
      intro hl
      rw [addQ_mem]
      by_cases hb : (st.files k).now.length ≤ a + s.length
      · refine .inr ⟨rfl, ?_, ?_⟩
        · simp only; omega
        · simp only [nsec]; omega
      · have := h.end_ k (by omega)
        rw [show max (st.files k).now.length (a + s.length) = (st.files k).now.length by omega]
        exact .inl this
    · simp only [if_neg hk]
      intro hl
      rw [addQ_mem]
      exact .inl (h.end_ k hl)
  · simp only [upf]
    by_cases hk : k = f
    · subst hk
      simp only [if_true, put_len, if_neg hs]
      intro hp hq
      rw [addQ_mem] at hq
      rw [getD_put]
      split
      · rename_i hin
        refine absurd (.inr ⟨rfl, ?_, ?_⟩) hq
        · simp only; omega
        · simp only [nsec]; omega
      · by_cases hpl : p < (st.files k).now.length
        · exact h.same k p hpl fun h => hq (.inl h)
        · rw [List.getD_eq_getElem?_getD, List.getD_eq_getElem?_getD, List.getElem?_eq_none (by omega), List.getElem?_eq_none (by omega)]
    · simp only [if_neg hk]
      intro hp hq
      rw [addQ_mem] at hq
      exact h.same k p hp fun h => hq (.inl h)
theorem Inv.wr {st : DS} (h : Inv st) (ok : DOk st) (f a : Int) (s : Bs) : Inv (wr st f a s) := by
  unfold Dk.wr; split
  · exact h.addW ok ..
  · exact h
theorem Inv.endsD {st : DS} (h : Inv st) : Inv (endsD st) := by
  unfold Dk.endsD; split
  · exact h
  · exact h.to rfl rfl
theorem Inv.crash {st : DS} (h : Inv st) (keep : List Int) : Inv (crash st keep) := by
  unfold Dk.crash; split
  · exact h
  · exact ⟨fun k hl => by simp [fin] at hl, fun k p _ _ => rfl⟩
theorem Inv.settle {st : DS} (h : Inv st) (f : Int) (s : Bs) : Inv (settle st f s) := by
  refine ⟨fun k => ?_, fun k p => ?_⟩
  · simp only [Dk.settle, upf]
    by_cases hk : k = f
    · subst hk; simp
    · simp only [if_neg hk]
      intro hl
      rw [List.mem_filter]
      exact ⟨h.end_ k hl, by simp [hk]⟩
  · simp only [Dk.settle, upf]
    by_cases hk : k = f
    · subst hk; simp
    · simp only [if_neg hk]
      intro hp hq
      rw [List.mem_filter] at hq
      exact h.same k p hp fun h => hq ⟨h, by simp [hk]⟩
theorem Inv.tick {st : DS} (h : Inv st) : Inv (tick st) := by
  unfold Dk.tick; split
  · exact h.endsD.crash _
  · exact h.endsD
theorem Inv.doD {st : DS} (h : Inv st) (ok : DOk st) (a : Go.Proofs.Ytbonfpoingibhaa.Act) : Inv (doD st a) := by
  unfold Go.Proofs.Ytbonfpoingibhaa.doD
  split
  · unfold syncD sync1
    split
    · exact h.tick
    split
    · exact h.tick.to rfl rfl
    · exact h.tick.settle ..
  split
  · unfold truncD trunc1
    split
    · exact h.tick
    · exact h.tick.settle ..
  split
  · exact h.to rfl rfl
  split
  · exact h.to rfl rfl
  split
  · exact h.crash _
  split
  · exact h.to rfl rfl
  · unfold writeD
    split
    · exact (h.endsD.wr ok.endsD ..).crash _
    · exact h.endsD.wr ok.endsD ..
theorem DOk.doD {st : DS} (h : DOk st) (a : Go.Proofs.Ytbonfpoingibhaa.Act) (hn : a.n ≤ 9223372036854775807) : DOk (doD st a) := by
  unfold Go.Proofs.Ytbonfpoingibhaa.doD
  split
  · exact h.sync _
  split
  · exact h.trunc _ _
  split
  · exact h.lose (by omega)
  split
  · exact h.arm hn _
  split
  · exact h.crash _
  split
  · exact h.start
  · exact h.write _ _ _
theorem play_inv : ∀ (l : List Go.Proofs.Ytbonfpoingibhaa.Act) {st : DS}, Inv st → DOk st → (∀ a ∈ l, a.n ≤ 9223372036854775807) → Inv (playD st l) ∧ DOk (playD st l)
  | [], _, h, ok, _ => ⟨h, ok⟩
  | a :: l, _, h, ok, hn => play_inv l (h.doD ok a) (ok.doD a (hn a (by simp))) fun x hx => hn x (by simp [hx])
theorem readB_all {st : DS} {f : Int} (ok : DOk st) (hd : st.down = false) (hf : 0 ≤ f ∧ f ≤ 15) : readE st f 0 16777216 = 0 ∧ readB st f 0 16777216 = (st.files f).now := by
  have hm : mayE st f = 0 := by unfold mayE; rw [hd, if_neg (by decide), if_neg (by omega)]
  have he : readE st f 0 16777216 = 0 := by unfold readE; rw [if_neg (by rw [hm]; decide), if_neg (by decide)]
  refine ⟨he, ?_⟩
  have := (ok.fl f).1
  unfold readB
  rw [if_neg (by rw [he]; decide), show (0 : Int).toNat = 0 from rfl, List.drop_zero, List.take_of_length_le (by omega)]
theorem aft_all {st : DS} {f : Int} (ok : DOk st) (hd : st.down = false) (hf : 0 ≤ f ∧ f ≤ 15) (keep : List Int) : aftE st f keep = 0 ∧ aftB st f keep = (steps keep 0 st.queue st.files f).last := by
  have := readB_all (st := startD (crash st keep)) (ok.crash keep).start rfl hf
  refine ⟨this.1, this.2.trans ?_⟩
  show ((Dk.crash st keep).files f).now = _
  unfold Dk.crash
  rw [if_neg (by rw [hd]; decide)]
  rfl
/-- What the law of DiskSurvives says. -/
structure SurvP (now last all some_ : Bs) : Prop where
  all : all = now
  lo : last.length ≤ some_.length
  hi : some_.length ≤ now.length
  sec : ∀ n : Nat, (∀ i : Nat, 64 * n ≤ i → i < 64 * n + 64 → i < some_.length → some_.getD i 0 = now.getD i 0) ∨ (∀ i : Nat, 64 * n ≤ i → i < 64 * n + 64 → i < some_.length → some_.getD i 0 = last.getD i 0)
theorem surv_law {st : DS} {f : Int} (h : Inv st) (ok : DOk st) (hd : st.down = false) (hf : 0 ≤ f ∧ f ≤ 15) (keep : List Int) : SurvP (st.files f).now (aftB st f []) (aftB st f [1]) (aftB st f keep) := by
  have hq : ∀ p ∈ st.queue, 0 ≤ p.2 := fun p hp => (ok.q p hp).2.2.1
  have hfl := (ok.fl f).2
  have hl0 : aftB st f [] = (st.files f).last := by rw [(aft_all ok hd hf []).2, steps_nil]
  rw [hl0, (aft_all ok hd hf [1]).2, (aft_all ok hd hf keep).2]
  obtain ⟨S, -, a2, -, -⟩ := steps_part (keep := keep) (k := f) st.queue 0 st.files _ hq rfl (Part.zero hfl)
  obtain ⟨T, -, b2, -, b4⟩ := steps_part (keep := [1]) (k := f) st.queue 0 st.files _ hq rfl (Part.zero hfl)
  have b4 := b4 fun j => by simp [surv, Nat.mod_one]
  refine ⟨?_, a2.lo, a2.hi, fun n => ?_⟩
  · have hlen : (steps [1] 0 st.queue st.files f).last.length = (st.files f).now.length := by
      by_cases hl : (st.files f).last.length < (st.files f).now.length
      · have h1 := h.end_ f hl
        have h2 := b2.len _ (by omega) (b4 _ h1 (by omega)) (by omega)
        have := b2.hi
        omega
      · have := b2.hi; have := b2.lo; omega
    refine List.ext_getElem hlen fun p h1 h2 => ?_
    have e : ∀ (l : Bs) (h : p < l.length), l[p] = l.getD p 0 := fun l h => by simp [List.getD_eq_getElem?_getD, List.getElem?_eq_getElem h]
    rw [e _ h1, e _ h2]
    by_cases hT : T ((p : Int) / 64)
    · exact b2.new p h1 hT
    · rw [b2.old p h1 hT]
      exact (h.same f p h2 fun hm => hT (b4 _ hm (by omega))).symm
  · by_cases hS : S n
    · exact .inl fun i h1 h2 h3 => a2.new i h3 (by rw [show (i : Int) / 64 = n by omega]; exact hS)
    · exact .inr fun i h1 h2 h3 => a2.old i h3 (by rw [show (i : Int) / 64 = n by omega]; exact hS)
end Go.Dk

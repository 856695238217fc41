/- The search by a queue finds the ranks: what holds at each of its steps. -/
import Derived.Test.YthakebelpnfinaaP2
set_option linter.unusedVariables false
set_option linter.unusedSimpArgs false
namespace Go.Proofs.Ythakebelpnfinaa
open Go.RowKit Go.Sx

/-- Answer t to move m has been counted: whoever stands ahead of place i in the queue; and at place i for the moves dn. -/
def prB (qu dn : List Int) (i : Nat) (m t : Int) : Bool := decide (t ∈ qu.take i) || (decide (qu[i]? = some t) && decide (m ∈ dn))
def leftN (qu dn : List Int) (i : Nat) (m : Int) (to : List Int) : Nat := to.countP (fun t => !prB qu dn i m t)
theorem rkO_set {rk : List Int} {o : Nat} {v x : Int} (ho : o < rk.length) (hx : 0 ≤ x) : rkO (rk.set o v) x = if x = o then v else rkO rk x := by
  simp only [rkO, List.getD_eq_getElem?_getD, List.getElem?_set]
  by_cases h : x = o
  · subst h; simp [ho]
  · rw [if_neg h, if_neg (by omega)]
theorem snoc_get {l : List Int} {o y : Int} {b : Nat} (h : (l ++ [o])[b]? = some y) : l[b]? = some y ∨ (b = l.length ∧ y = o) := by
  rcases Nat.lt_or_ge b l.length with hb | hb
  · rw [List.getElem?_append_left hb] at h; exact .inl h
  · rw [List.getElem?_append_right hb] at h
    rcases Nat.eq_or_lt_of_le hb with he | hlt
    · rw [← he, Nat.sub_self] at h; simp at h; exact .inr ⟨he.symm, h.symm⟩
    · rw [List.getElem?_eq_none (by simp; omega)] at h; cases h
theorem countP_less {l : List Int} {p : Int} {f f' : Int → Bool} (hn : l.Nodup) (hp : p ∈ l) (h1 : f p = true) (h2 : f' p = false) (hs : ∀ t, t ≠ p → f' t = f t) : l.countP f = l.countP f' + 1 := by
  induction l with
  | nil => cases hp
  | cons x l ih =>
    rw [List.nodup_cons] at hn
    rw [List.countP_cons, List.countP_cons]
    by_cases hx : x = p
    · subst hx
      have : l.countP f = l.countP f' := List.countP_congr fun t ht => by rw [hs t (fun e => hn.1 (by rw [← e]; exact ht))]
      rw [this, h1, h2]; simp
    · have hp' : p ∈ l := by rcases List.mem_cons.1 hp with h | h; exact absurd h.symm hx; exact h
      rw [ih hn.2 hp', hs x hx]; omega

structure BI (g : Gm) (fl : Fl) (i : Nat) (dn rk lf qu : List Int) : Prop where
  lrk : rk.length = g.goal.length
  llf : lf.length = fl.length
  ile : i ≤ qu.length
  E : ∀ (m : Nat) (hm : m < fl.length), lf[m]? = some (leftN qu dn i m fl[m].2 : Int)
  nd : qu.Nodup
  cnt : cntR rk = qu.length
  mem : ∀ x : Int, x ∈ qu ↔ (0 ≤ x ∧ x < g.goal.length ∧ 0 ≤ rkO rk x)
  lo : ∀ x, 0 ≤ x → -1 ≤ rkO rk x
  srt : ∀ (a b : Nat) (x y : Int), qu[a]? = some x → qu[b]? = some y → a ≤ b → rkO rk x ≤ rkO rk y
  nxt : ∀ (b : Nat) (x y : Int), qu[i]? = some x → qu[b]? = some y → rkO rk y ≤ rkO rk x + 1
  up : ∀ (b : Nat) (y : Int), qu[b]? = some y → rkO rk y ≤ b
  snd : ∀ x : Int, 0 ≤ x → x < g.goal.length → 0 ≤ rkO rk x → win g (rkO rk x).toNat x.toNat
  gl : ∀ x : Nat, g.goal[x]? = some true → 0 ≤ rkO rk x
  dn_ : ∀ (m : Nat) (hm : m < fl.length), leftN qu dn i m fl[m].2 = 0 → 0 ≤ rkO rk fl[m].1
  mn : ∀ x : Int, 0 ≤ x → x < g.goal.length → 0 ≤ rkO rk x → ∀ s : Nat, (s : Int) < rkO rk x → ¬ win g s x.toNat

section
variable {g : Gm} {fl : Fl} {i : Nat} {dn rk lf qu : List Int}
theorem BI.wins (h : BI g fl i dn rk lf qu) (hr : RightP g) (hf : FlP g fl g.ms.length 0) {p : Int} (hp : qu[i]? = some p) : ∀ (s x : Nat), (s : Int) ≤ rkO rk p → x < g.goal.length → win g s x → 0 ≤ rkO rk x := by
  intro s
  induction s with
  | zero => intro x _ hx hw; exact h.gl x hw
  | succ s ih =>
    intro x hs hx hw
    rcases hw with hw | ⟨hi, k, hk, hw⟩
    · exact ih x (by omega) hx hw
    · obtain ⟨m, hm, he⟩ := hf.compl x hi k hk (.inl hi)
      have := h.dn_ m hm (by
        rw [he]
        refine List.countP_eq_zero.2 fun t ht => ?_
        obtain ⟨j, hj, rfl⟩ := List.getElem_of_mem ht
        obtain ⟨u0, u1, _⟩ := (hr.mv x hi k hk).2.2.2 j hj
        have hwj := hw j hj
        have h1 := ih _ (by omega) (by omega) hwj
        rw [Int.toNat_of_nonneg u0] at h1
        have h2 : rkO rk g.ms[x].l[k].to[j] ≤ s := by
          rcases Int.lt_or_le s (rkO rk g.ms[x].l[k].to[j]) with hlt | hge
          · exact absurd hwj (h.mn _ u0 u1 h1 s hlt)
          · exact hge
        obtain ⟨b, hb, hbe⟩ := List.getElem_of_mem ((h.mem _).2 ⟨u0, u1, h1⟩)
        have hbi : b < i := by
          rcases Nat.lt_or_ge b i with hlt | hge
          · exact hlt
          · have := h.srt i b p _ hp (by rw [List.getElem?_eq_getElem hb, hbe]) hge
            omega
        have hin : g.ms[x].l[k].to[j] ∈ qu.take i := by
          rw [List.mem_take_iff_getElem]; exact ⟨b, by omega, hbe⟩
        simp [prB, hin])
      rw [he] at this; exact this
theorem BI.ranks (h : BI g fl i dn rk lf qu) (hr : RightP g) (hf : FlP g fl g.ms.length 0) (hi : qu.length ≤ i) : RanksP g rk := by
  have hwin : ∀ (s x : Nat), x < g.goal.length → win g s x → 0 ≤ rkO rk x := by
    intro s
    induction s with
    | zero => intro x hx hw; exact h.gl x hw
    | succ s ih =>
      intro x hx hw
      rcases hw with hw | ⟨hi', k, hk, hw⟩
      · exact ih x hx hw
      · obtain ⟨m, hm, he⟩ := hf.compl x hi' k hk (.inl hi')
        have := h.dn_ m hm (by
          rw [he]
          refine List.countP_eq_zero.2 fun t ht => ?_
          obtain ⟨j, hj, rfl⟩ := List.getElem_of_mem ht
          obtain ⟨u0, u1, _⟩ := (hr.mv x hi' k hk).2.2.2 j hj
          have h1 := ih _ (by omega) (hw j hj)
          rw [Int.toNat_of_nonneg u0] at h1
          have hin : g.ms[x].l[k].to[j] ∈ qu.take i := by
            rw [List.take_of_length_le hi]; exact (h.mem _).2 ⟨u0, u1, h1⟩
          simp [prB, hin])
        rw [he] at this; exact this
  have hcl : qu.length ≤ g.goal.length := by rw [← h.cnt, ← h.lrk]; exact List.countP_le_length
  refine ⟨h.lrk, fun x hx => ?_, fun x hx => ?_⟩
  · rw [← rkO_eq hx]
    rcases Int.lt_or_le (rkO rk x) 0 with hlt | hge
    · omega
    · obtain ⟨b, hb, hbe⟩ := List.getElem_of_mem ((h.mem x).2 ⟨by omega, by rw [h.lrk] at hx; omega, hge⟩)
      have := h.up b _ (List.getElem?_eq_getElem hb)
      rw [hbe] at this
      omega
  · have hxn : x < g.goal.length := by rw [← h.lrk]; exact hx
    rw [← rkO_eq hx]
    rcases Int.lt_or_le (rkO rk x) 0 with hlt | hge
    · exact .inl ⟨by have := h.lo x (by omega); omega, fun r hw => by have := hwin r x hxn hw; omega⟩
    · refine .inr ⟨(rkO rk x).toNat, by omega, ?_, fun s hs hw => ?_⟩
      · have := h.snd x (by omega) (by omega) hge; simpa using this
      · exact h.mn x (by omega) (by omega) hge s (by omega) (by simpa using hw)
theorem prB_snoc {o m t : Int} (hi : i < qu.length) : prB (qu ++ [o]) dn i m t = prB qu dn i m t := by
  simp only [prB]
  rw [List.take_append_of_le_length (by omega), List.getElem?_append_left hi]
theorem leftN_snoc {o m : Int} {to : List Int} (hi : i < qu.length) : leftN (qu ++ [o]) dn i m to = leftN qu dn i m to := by
  simp only [leftN, prB_snoc hi]
theorem leftN_other {m m' : Int} {to : List Int} (h : m' ≠ m) : leftN qu (dn ++ [m]) i m' to = leftN qu dn i m' to := by
  simp [leftN, prB, h]
theorem BI.less (h : BI g fl i dn rk lf qu) (hr : RightP g) (hf : FlP g fl g.ms.length 0) {p : Int} (hp : qu[i]? = some p) {m : Nat} (hm : m < fl.length) (hpm : p ∈ fl[m].2) (hd : (m : Int) ∉ dn) : leftN qu dn i m fl[m].2 = leftN qu (dn ++ [(m : Int)]) i m fl[m].2 + 1 := by
  obtain ⟨ha, q, hq, he⟩ := hf.sound m hm
  have hasc := (hr.mv _ ha q hq).2.2.2
  rw [← he] at hasc
  have hnd : fl[m].2.Nodup := by
    rw [List.Nodup, List.pairwise_iff_getElem]
    intro a b ha hb hab hE
    have := asc_nodup hasc b a hb ha hab
    omega
  have hpi : p ∉ qu.take i := by
    intro hin
    obtain ⟨b, hb, hbe⟩ := List.mem_take_iff_getElem.1 hin
    obtain ⟨hil, hie⟩ := List.getElem?_eq_some_iff.1 hp
    exact (List.pairwise_iff_getElem.1 h.nd) b i (by omega) hil (by omega) (by rw [hbe, hie])
  refine countP_less hnd hpm ?_ ?_ fun t ht => ?_
  · simp [prB, hpi, hd]
  · simp [prB, hp]
  · have : ¬ qu[i]? = some t := by rw [hp]; intro e; exact ht (Option.some.inj e).symm
    simp [prB, this]
/-- A move whose count falls, and no more. -/
theorem BI.keep (h : BI g fl i dn rk lf qu) (hr : RightP g) (hf : FlP g fl g.ms.length 0) {p : Int} (hp : qu[i]? = some p) {m : Nat} (hm : m < fl.length) (hpm : p ∈ fl[m].2) (hd : (m : Int) ∉ dn) {c : Int} (hc : lf[m]? = some c) (hk : c - 1 = 0 → 0 ≤ rkO rk fl[m].1) : BI g fl i (dn ++ [(m : Int)]) rk (lf.set m (c - 1)) qu := by
  have hl := h.less hr hf hp hm hpm hd
  have hcE : c = leftN qu dn i m fl[m].2 := by have := h.E m hm; rw [hc] at this; exact Option.some.inj this
  refine { h with llf := by rw [List.length_set]; exact h.llf, E := fun m' hm' => ?_, dn_ := fun m' hm' h0 => ?_ }
  · rw [List.getElem?_set]
    by_cases he : m = m'
    · subst he
      rw [if_pos rfl, if_pos (by rw [h.llf]; exact hm)]
      congr 1; omega
    · rw [if_neg he, leftN_other (by omega)]; exact h.E m' hm'
  · by_cases he : m = m'
    · subst he; exact hk (by omega)
    · rw [leftN_other (by omega)] at h0; exact h.dn_ m' hm' h0
/-- A move whose count falls to 0, its owner not yet won. -/
theorem BI.put (h : BI g fl i dn rk lf qu) (hr : RightP g) (hf : FlP g fl g.ms.length 0) {p : Int} (hp : qu[i]? = some p) {m : Nat} (hm : m < fl.length) (hpm : p ∈ fl[m].2) (hd : (m : Int) ∉ dn) (hc : lf[m]? = some 1) (hk : rkO rk fl[m].1 < 0) : BI g fl i (dn ++ [(m : Int)]) (rk.set fl[m].1 (rkO rk p + 1)) (lf.set m 0) (qu ++ [(fl[m].1 : Int)]) := by
  have hl := h.less hr hf hp hm hpm hd
  have hcE : (1 : Int) = leftN qu dn i m fl[m].2 := by have := h.E m hm; rw [hc] at this; exact Option.some.inj this
  have hil : i < qu.length := (List.getElem?_eq_some_iff.1 hp).1
  obtain ⟨ha, q, hq, he⟩ := hf.sound m hm
  have ho : fl[m].1 < rk.length := by rw [h.lrk, hr.len]; exact ha
  have hon : fl[m].1 < g.goal.length := by rw [← h.lrk]; exact ho
  have hpq : p ∈ qu := List.mem_of_getElem? hp
  obtain ⟨hp0, hp1, hp2⟩ := (h.mem p).1 hpq
  have hno : (fl[m].1 : Int) ∉ qu := fun hin => by have := ((h.mem _).1 hin).2.2; omega
  have hset : ∀ x : Int, 0 ≤ x → rkO (rk.set fl[m].1 (rkO rk p + 1)) x = if x = fl[m].1 then rkO rk p + 1 else rkO rk x := fun x hx => rkO_set ho hx
  have hq_ : ∀ {b : Nat} {y : Int}, qu[b]? = some y → rkO (rk.set fl[m].1 (rkO rk p + 1)) y = rkO rk y := fun {b y} hy => by
    have hin := List.mem_of_getElem? hy
    rw [hset y ((h.mem y).1 hin).1, if_neg (fun e => hno (by rw [← e]; exact hin))]
  have ho_ : rkO (rk.set fl[m].1 (rkO rk p + 1)) fl[m].1 = rkO rk p + 1 := by rw [hset _ (by omega), if_pos rfl]
  have hi_ : (qu ++ [(fl[m].1 : Int)])[i]? = some p := by rw [List.getElem?_append_left hil]; exact hp
  -- all answers of the move are won in at most rank p rounds
  have hz : leftN qu (dn ++ [(m : Int)]) i m fl[m].2 = 0 := by omega
  have hall : ∀ (j : Nat) (hj : j < g.ms[fl[m].1].l[q].to.length), win g (rkO rk p).toNat g.ms[fl[m].1].l[q].to[j].toNat := by
    intro j hj
    obtain ⟨u0, u1, _⟩ := (hr.mv _ ha q hq).2.2.2 j hj
    have ht := List.countP_eq_zero.1 hz g.ms[fl[m].1].l[q].to[j] (by rw [he]; exact List.getElem_mem hj)
    have hin : ∃ b, b ≤ i ∧ qu[b]? = some g.ms[fl[m].1].l[q].to[j] := by
      simp only [prB, Bool.not_eq_true', Bool.not_eq_false, Bool.or_eq_true, Bool.and_eq_true, decide_eq_true_eq, Bool.not_eq_true] at ht
      rcases ht with ht | ⟨ht, _⟩
      · obtain ⟨b, hb, hbe⟩ := List.mem_take_iff_getElem.1 ht
        exact ⟨b, by omega, by rw [List.getElem?_eq_getElem (by omega), hbe]⟩
      · exact ⟨i, Nat.le_refl _, ht⟩
    obtain ⟨b, hb, hbe⟩ := hin
    have h1 := ((h.mem _).1 (List.mem_of_getElem? hbe)).2.2
    have h2 := h.srt b i _ p hbe hp hb
    exact win_mono (h.snd _ u0 u1 h1) (by omega)
  refine ⟨by rw [List.length_set]; exact h.lrk, by rw [List.length_set]; exact h.llf, by simp; omega, fun m' hm' => ?_, ?_, ?_, fun x => ?_, fun x hx => ?_, ?_, ?_, ?_, fun x hx hxn h0 => ?_, fun x hx => ?_, fun m' hm' h0 => ?_, fun x hx hxn h0 s hs hw => ?_⟩
  · rw [leftN_snoc hil, List.getElem?_set]
    by_cases hE : m = m'
    · subst hE
      rw [if_pos rfl, if_pos (by rw [h.llf]; exact hm)]
      congr 1; omega
    · rw [if_neg hE, leftN_other (by omega)]; exact h.E m' hm'
  · rw [List.nodup_append]
    refine ⟨h.nd, by simp, fun a ha b hb => ?_⟩
    rw [List.mem_singleton.1 hb]
    rintro rfl
    exact hno ha
  · rw [cntR_set ho (by rw [← rkO_eq ho]; exact hk) (by omega), h.cnt]; simp
  · rw [List.mem_append, List.mem_singleton]
    constructor
    · rintro (hx | rfl)
      · obtain ⟨h0, h1, h2⟩ := (h.mem x).1 hx
        obtain ⟨b, hb⟩ := List.getElem?_of_mem hx
        exact ⟨h0, h1, by rw [hq_ hb]; exact h2⟩
      · exact ⟨by omega, by omega, by rw [ho_]; omega⟩
    · rintro ⟨h0, h1, h2⟩
      by_cases hx : x = fl[m].1
      · exact .inr hx
      · rw [hset x h0, if_neg hx] at h2
        exact .inl ((h.mem x).2 ⟨h0, h1, h2⟩)
  · rw [hset x hx]
    split
    · omega
    · exact h.lo x hx
  · intro a b x y hxa hyb hab
    rcases snoc_get hxa with h1 | ⟨rfl, rfl⟩
    · rcases snoc_get hyb with h2 | ⟨rfl, rfl⟩
      · rw [hq_ h1, hq_ h2]; exact h.srt a b x y h1 h2 hab
      · rw [hq_ h1, ho_]; exact h.nxt a p x hp h1
    · rcases snoc_get hyb with h2 | ⟨rfl, rfl⟩
      · have := (List.getElem?_eq_some_iff.1 h2).1; omega
      · exact Int.le_refl _
  · intro b x y hx hy
    rw [hi_] at hx
    obtain rfl := Option.some.inj hx
    rw [hq_ hp]
    rcases snoc_get hy with h2 | ⟨rfl, rfl⟩
    · rw [hq_ h2]; exact h.nxt b p y hp h2
    · rw [ho_]; omega
  · intro b y hy
    rcases snoc_get hy with h2 | ⟨rfl, rfl⟩
    · rw [hq_ h2]; exact h.up b y h2
    · rw [ho_]; have := h.up i p hp; omega
  · rw [hset x hx] at h0 ⊢
    by_cases hxo : x = fl[m].1
    · subst hxo
      rw [if_pos rfl]
      rw [show (rkO rk p + 1).toNat = (rkO rk p).toNat + 1 by omega]
      exact .inr ⟨ha, q, hq, hall⟩
    · rw [if_neg hxo] at h0 ⊢; exact h.snd x hx hxn h0
  · rw [hset x (by omega)]
    split
    · omega
    · exact h.gl x hx
  · rw [hset _ (by omega)]
    rw [leftN_snoc hil] at h0
    split
    · omega
    · rename_i hne
      by_cases hE : m = m'
      · subst hE; exact absurd rfl hne
      · rw [leftN_other (by omega)] at h0; exact h.dn_ m' hm' h0
  · rw [hset x hx] at h0 hs
    by_cases hxo : x = fl[m].1
    · subst hxo
      rw [if_pos rfl] at hs
      have := h.wins hr hf hp s fl[m].1 (by omega) hon (by simpa using hw)
      omega
    · rw [if_neg hxo] at h0 hs; exact h.mn x hx hxn h0 s hs hw
/-- A round is done. -/
theorem BI.next (h : BI g fl i dn rk lf qu) {p : Int} (hp : qu[i]? = some p) (hd : ∀ (m : Nat) (hm : m < fl.length), p ∈ fl[m].2 → (m : Int) ∈ dn) : BI g fl (i + 1) [] rk lf qu := by
  have hil : i < qu.length := (List.getElem?_eq_some_iff.1 hp).1
  have hL : ∀ (m : Nat) (hm : m < fl.length), leftN qu [] (i + 1) m fl[m].2 = leftN qu dn i m fl[m].2 := by
    intro m hm
    refine List.countP_congr fun t ht => ?_
    have e : qu.take (i + 1) = qu.take i ++ [p] := by rw [List.take_add_one, hp]; rfl
    by_cases htp : t = p
    · subst htp; simp [prB, e, hp, hd m hm ht]
    · have : ¬ p = t := fun e => htp e.symm
      simp [prB, e, hp, htp, this]
  refine { h with ile := hil, E := fun m hm => by rw [hL m hm]; exact h.E m hm, dn_ := fun m hm h0 => h.dn_ m hm (by rw [← hL m hm]; exact h0), nxt := fun b x y hx hy => ?_ }
  have h1 := h.nxt b p y hp hy
  have h2 := h.srt i (i + 1) p x hp hx (by omega)
  omega
end
theorem quL_rk0 (goal : List Bool) : ∀ i, i ≤ goal.length → (quL goal i).length = cntR (rk0 (goal.take i)) := by
  intro i
  induction i with
  | zero => intro _; simp [quL, cntR, rk0]
  | succ i ih =>
    intro hi
    have h0 : i < goal.length := by omega
    have hl : (rk0 (goal.take i)).length = i := by rw [rk0_len, List.length_take]; omega
    cases hg : goal[i] with
    | true =>
      have hx : goal[i]? = some true := by rw [List.getElem?_eq_getElem h0, hg]
      rw [quL_add hx, rk0_true hx, List.set_append_right _ _ (by omega), hl, Nat.sub_self]
      simp [ih (by omega), cntR, List.countP_append]
    | false =>
      have hx : goal[i]? = some false := by rw [List.getElem?_eq_getElem h0, hg]
      rw [quL_keep hx, rk0_false hx, ih (by omega)]
      simp [cntR, List.countP_append]
theorem BI.init {g : Gm} {fl : Fl} (hr : RightP g) (hf : FlP g fl g.ms.length 0) : BI g fl 0 [] (rk0 g.goal) (lfL fl) (quL g.goal g.goal.length) := by
  have hrk : ∀ x : Int, 0 ≤ x → rkO (rk0 g.goal) x = if g.goal[x.toNat]? = some true then 0 else -1 := by
    intro x hx
    simp only [rkO, List.getD_eq_getElem?_getD, rk0, List.getElem?_map]
    cases hg : g.goal[x.toNat]? with
    | none => simp
    | some b => cases b <;> simp
  have hmem : ∀ x : Int, x ∈ quL g.goal g.goal.length ↔ (0 ≤ x ∧ x < g.goal.length ∧ 0 ≤ rkO (rk0 g.goal) x) := by
    intro x
    simp only [quL, List.mem_map, List.mem_filter, List.mem_range]
    constructor
    · rintro ⟨p, ⟨hp, hg⟩, rfl⟩
      refine ⟨by omega, by omega, ?_⟩
      rw [hrk _ (by omega)]
      have : g.goal[p]? = some true := by simpa using hg
      simp [this]
    · rintro ⟨h0, h1, h2⟩
      rw [hrk _ h0] at h2
      refine ⟨x.toNat, ⟨by omega, ?_⟩, by omega⟩
      split at h2
      · rename_i h; simp [h]
      · omega
  have hz : ∀ (b : Nat) (y : Int), (quL g.goal g.goal.length)[b]? = some y → rkO (rk0 g.goal) y = 0 := by
    intro b y hy
    obtain ⟨h0, h1, h2⟩ := (hmem y).1 (List.mem_of_getElem? hy)
    rw [hrk y h0] at h2 ⊢
    split at h2
    · rename_i h; rw [if_pos h]
    · omega
  refine ⟨rk0_len _, lfL_len fl, Nat.zero_le _, fun m hm => ?_, ?_, ?_, hmem, fun x hx => ?_, fun a b x y hx hy _ => ?_, fun b x y hx hy => ?_, fun b y hy => ?_, fun x hx hxn h0 => ?_, fun x hx => ?_, fun m hm h0 => ?_, fun x hx hxn h0 s hs hw => ?_⟩
  · simp [lfL, leftN, prB, hm, List.countP_true]
  · simp only [quL]
    refine List.Pairwise.map _ (fun a b h e => h (by omega)) ((List.nodup_range).filter _)
  · rw [quL_rk0 g.goal _ (Nat.le_refl _), List.take_length]
  · rw [hrk x hx]; split <;> omega
  · rw [hz a x hx, hz b y hy]; omega
  · rw [hz 0 x hx, hz b y hy]; omega
  · rw [hz b y hy]; omega
  · rw [hrk x hx] at h0 ⊢
    split at h0
    · rename_i h; rw [if_pos h]; exact h
    · omega
  · rw [hrk x (by omega)]; simp [hx]
  · obtain ⟨ha, q, hq, he⟩ := hf.sound m hm
    have hne := (hr.mv _ ha q hq).2.2.1
    rw [← he] at hne
    simp [leftN, prB] at h0
    exact absurd h0 hne
  · rw [hrk x hx] at hs
    split at hs <;> omega
end Go.Proofs.Ythakebelpnfinaa

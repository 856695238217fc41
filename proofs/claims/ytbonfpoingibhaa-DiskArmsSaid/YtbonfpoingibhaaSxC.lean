/- Sx, part C: resources, what holds of the memory, allocs, loads, stores. -/
import Derived.Test.YtbonfpoingibhaaSxB
set_option linter.unusedVariables false
set_option linter.unusedSimpArgs false
namespace Go.Sx
open Go.RowKit

theorem add_lit (b o k : Nat) : (⟨b, o, none⟩ : Addr).add k = ⟨b, o + k, none⟩ := by unfold Addr.add; split <;> simp_all
theorem add_add (a : Addr) (i j : Nat) : (a.add i).add j = a.add (i + j) := by
  unfold Addr.add
  by_cases hi : i = 0 <;> by_cases hj : j = 0 <;> simp [hi, hj, Nat.add_assoc]
theorem add_block (a : Addr) (i : Nat) : (a.add i).block = a.block := by unfold Addr.add; split <;> rfl
theorem add_zero (a : Addr) : a.add 0 = a := by simp [Addr.add]

/-- What a part of the memory holds: it looks at no block outside its own. -/
structure Res where
  holds : (Nat → Prop) → World → Prop
  lcl : ∀ S S' w w', holds S w → (∀ k, S k → w'.heap[k]? = w.heap[k]?) → (∀ k, S k → S' k) → holds S' w'

def SatD : List Res → (Nat → Prop) → World → Prop
  | [], _, _ => True
  | R :: Rs, D, w => ∃ S, (∀ k, S k → D k) ∧ R.holds S w ∧ SatD Rs (fun k => D k ∧ ¬ S k) w
def Dom (w0 w : World) : Nat → Prop := fun k => w0.heap.size ≤ k ∧ k < w.heap.size
/-- Since w0 only new blocks were written; they hold Rs, each its own. -/
def Sat (w0 : World) (Rs : List Res) (w : World) : Prop := Below w0.heap.size w0 w ∧ SatD Rs (Dom w0 w) w

theorem SatD.mono {Rs : List Res} : ∀ {D D' : Nat → Prop} {w w' : World}, SatD Rs D w → (∀ k, D k → w'.heap[k]? = w.heap[k]?) → (∀ k, D k → D' k) → SatD Rs D' w' := by
  induction Rs with
  | nil => intros; trivial
  | cons R Rs ih =>
    intro D D' w w' h hw hD
    obtain ⟨S, hS, hR, hr⟩ := h
    exact ⟨S, fun k hk => hD k (hS k hk), R.lcl S S w w' hR (fun k hk => hw k (hS k hk)) (fun _ h => h), ih hr (fun k hk => hw k hk.1) (fun k hk => ⟨hD k hk.1, hk.2⟩)⟩
theorem SatD.swap {R1 R2 : Res} {Rs : List Res} {D : Nat → Prop} {w : World} (h : SatD (R1 :: R2 :: Rs) D w) : SatD (R2 :: R1 :: Rs) D w := by
  obtain ⟨S1, h1, r1, S2, h2, r2, hr⟩ := h
  refine ⟨S2, fun k hk => (h2 k hk).1, r2, S1, fun k hk => ⟨h1 k hk, fun hk2 => (h2 k hk2).2 hk⟩, r1, hr.mono (fun _ _ => rfl) fun k hk => ⟨⟨hk.1.1, hk.2⟩, hk.1.2⟩⟩
theorem SatD.drop {R : Res} {Rs : List Res} {D : Nat → Prop} {w : World} (h : SatD (R :: Rs) D w) : SatD Rs D w := by
  obtain ⟨S, _, _, hr⟩ := h
  exact hr.mono (fun _ _ => rfl) fun k hk => hk.1

/-- R stands somewhere in Rs; Rs' is the rest. -/
inductive Pick : List Res → Res → List Res → Prop
  | hd {R : Res} {Rs : List Res} : Pick (R :: Rs) R Rs
  | tl {X R : Res} {Rs Rs' : List Res} : Pick Rs R Rs' → Pick (X :: Rs) R (X :: Rs')
/-- Rs with R turned into R'. -/
inductive Swap : List Res → Res → Res → List Res → Prop
  | hd {R R' : Res} {Rs : List Res} : Swap (R :: Rs) R R' (R' :: Rs)
  | tl {X R R' : Res} {Rs Rs' : List Res} : Swap Rs R R' Rs' → Swap (X :: Rs) R R' (X :: Rs')
/-- T out of Rs, whatever else there is. -/
inductive Sub : List Res → List Res → Prop
  | nil {Rs : List Res} : Sub [] Rs
  | refl {Rs : List Res} : Sub Rs Rs
  | cons {R : Res} {T Rs Rs' : List Res} : Pick Rs R Rs' → Sub T Rs' → Sub (R :: T) Rs
  | skip {X : Res} {T Rs : List Res} : Sub T Rs → Sub T (X :: Rs)

theorem Pick.satD {Rs Rs' : List Res} {R : Res} (h : Pick Rs R Rs') : ∀ {D : Nat → Prop} {w : World}, SatD Rs D w → SatD (R :: Rs') D w := by
  induction h with
  | hd => intro D w h; exact h
  | tl h ih =>
    intro D w hs
    obtain ⟨S, hS, hX, hr⟩ := hs
    exact SatD.swap ⟨S, hS, hX, ih hr⟩
theorem Pick.satD_back {Rs Rs' : List Res} {R : Res} (h : Pick Rs R Rs') : ∀ {D : Nat → Prop} {w : World}, SatD (R :: Rs') D w → SatD Rs D w := by
  induction h with
  | hd => intro D w h; exact h
  | tl h ih =>
    intro D w hs
    obtain ⟨S, hS, hX, hr⟩ := SatD.swap hs
    exact ⟨S, hS, hX, ih hr⟩
theorem Swap.picks {Rs Rs' : List Res} {R R' : Res} (h : Swap Rs R R' Rs') : ∃ Rt, Pick Rs R Rt ∧ Pick Rs' R' Rt := by
  induction h with
  | hd => exact ⟨_, .hd, .hd⟩
  | tl h ih => obtain ⟨Rt, h1, h2⟩ := ih; exact ⟨_, .tl h1, .tl h2⟩
theorem Pick.same {Rs Rs' : List Res} {R : Res} (h : Pick Rs R Rs') : Swap Rs R R Rs := by
  induction h with
  | hd => exact .hd
  | tl _ ih => exact .tl ih
theorem Sub.satD {T Rs : List Res} (h : Sub T Rs) : ∀ {D : Nat → Prop} {w : World}, SatD Rs D w → SatD T D w := by
  induction h with
  | nil => intros; trivial
  | refl => intro D w h; exact h
  | cons hp _ ih =>
    intro D w hs
    obtain ⟨S, hS, hR, hr⟩ := hp.satD hs
    exact ⟨S, hS, hR, ih hr⟩
  | skip _ ih => intro D w hs; exact ih hs.drop

section sat
variable {w0 w w' : World} {Rs Rs' T : List Res} {R R' : Res}
theorem Sat.sub (h : Sat w0 Rs w) (hs : Sub T Rs) : Sat w0 T w := ⟨h.1, hs.satD h.2⟩
theorem Sat.pick (h : Sat w0 Rs w) (hp : Pick Rs R Rs') : Sat w0 (R :: Rs') w := ⟨h.1, hp.satD h.2⟩
theorem Sat.back (h : Sat w0 (R :: Rs') w) (hp : Pick Rs R Rs') : Sat w0 Rs w := ⟨h.1, hp.satD_back h.2⟩
theorem Sat.drop (h : Sat w0 (R :: Rs) w) : Sat w0 Rs w := ⟨h.1, h.2.drop⟩
theorem Sat.init (w0 : World) : Sat w0 [] w0 := ⟨Below.refl _ _, trivial⟩
theorem Sat.base (h : Sat w0 Rs w) : w0.heap.size ≤ w.heap.size := h.1.size
/-- Only a count of draws was moved. -/
theorem Sat.drew (h : Sat w0 Rs w) (hw : w'.heap = w.heap ∧ w'.os = w.os ∧ w'.tape = w.tape ∧ w'.output = w.output) : Sat w0 Rs w' := by
  obtain ⟨h1, h2, h3, h4⟩ := hw
  refine ⟨⟨h2.trans h.1.os, h3.trans h.1.tape, h4.trans h.1.output, by rw [h1]; exact h.1.size, fun k hk => by rw [h1]; exact h.1.block k hk⟩, h.2.mono (fun k _ => by rw [h1]) fun k hk => ⟨hk.1, by rw [h1]; exact hk.2⟩⟩
/-- How the world may turn where the blocks S are ours. -/
structure Turn (S : Nat → Prop) (w w' : World) : Prop where
  os : w'.os = w.os
  tape : w'.tape = w.tape
  output : w'.output = w.output
  size : w.heap.size ≤ w'.heap.size
  block : ∀ k, k < w.heap.size → ¬ S k → w'.heap[k]? = w.heap[k]?
theorem Turn.refl (S : Nat → Prop) (w : World) : Turn S w w := ⟨rfl, rfl, rfl, Nat.le_refl _, fun _ _ _ => rfl⟩
theorem SatD.join {Rs : List Res} {w : World} {D : Nat → Prop} (hr : SatD Rs D w) : ∀ (Rn : List Res) (E : Nat → Prop), (∀ k, E k → ¬ D k) → SatD Rn E w → SatD (Rn ++ Rs) (fun k => E k ∨ D k) w := by
  intro Rn
  induction Rn with
  | nil => intro E _ _; exact hr.mono (fun _ _ => rfl) fun k hk => .inr hk
  | cons X Rn ih =>
    intro E hE hx
    obtain ⟨S1, h1, hX, hrest⟩ := hx
    refine ⟨S1, fun k hk => .inl (h1 k hk), hX, (ih (fun k => E k ∧ ¬ S1 k) (fun k hk => hE k hk.1) hrest).mono (fun _ _ => rfl) fun k hk => ?_⟩
    rcases hk with hk | hk
    · exact ⟨.inl hk.1, hk.2⟩
    · exact ⟨.inr hk, fun hk1 => hE k (h1 k hk1) hk⟩
/-- THE STEP: the head's own blocks and new ones now hold Rn. -/
theorem Sat.step (h : Sat w0 (R :: Rs) w) : ∃ S, R.holds S w ∧ (∀ k, S k → Dom w0 w k) ∧
    ∀ (Rn : List Res) (w' : World), Turn S w w' → SatD Rn (fun k => S k ∨ (w.heap.size ≤ k ∧ k < w'.heap.size)) w' → Sat w0 (Rn ++ Rs) w' := by
  obtain ⟨hb, S, hS, hR, hr⟩ := h
  refine ⟨S, hR, hS, fun Rn w' ht hn => ⟨?_, ?_⟩⟩
  · exact hb.trans ⟨ht.os, ht.tape, ht.output, ht.size, fun k hk => ht.block k (Nat.lt_of_lt_of_le hk hb.size) (fun hs => by have := (hS k hs).1; omega)⟩
  · have hr' : SatD Rs (fun k => Dom w0 w k ∧ ¬ S k) w' := hr.mono (fun k hk => ht.block k hk.1.2 hk.2) fun _ h => h
    refine (hr'.join Rn _ (fun k hk hd => ?_) hn).mono (fun _ _ => rfl) fun k hk => ?_
    · rcases hk with hk | hk
      · exact hd.2 hk
      · have := hd.1.2; omega
    · have := hb.size
      have h2 := ht.size
      rcases hk with (hk | hk) | hk
      · exact ⟨(hS k hk).1, Nat.lt_of_lt_of_le (hS k hk).2 h2⟩
      · exact ⟨by omega, hk.2⟩
      · exact ⟨hk.1.1, Nat.lt_of_lt_of_le hk.1.2 h2⟩
/-- New blocks alone. -/
theorem Sat.fresh (h : Sat w0 Rs w) (Rn : List Res) (w' : World) (ht : Turn (fun _ => False) w w') (hn : SatD Rn (fun k => w.heap.size ≤ k ∧ k < w'.heap.size) w') : Sat w0 (Rn ++ Rs) w' := by
  obtain ⟨hb, hr⟩ := h
  have h1 := hb.size
  have h2 := ht.size
  refine ⟨hb.trans ⟨ht.os, ht.tape, ht.output, ht.size, fun k hk => ht.block k (by omega) (fun h => h)⟩, ?_⟩
  have hr' : SatD Rs (Dom w0 w) w' := hr.mono (fun k hk => ht.block k hk.2 fun h => h) fun _ h => h
  refine (hr'.join Rn _ (fun k hk hd => ?_) hn).mono (fun _ _ => rfl) fun k hk => ?_
  · have := hd.2; omega
  · rcases hk with hk | hk
    · exact ⟨by omega, hk.2⟩
    · exact ⟨hk.1, Nat.lt_of_lt_of_le hk.2 h2⟩
/-- A resource turned where it stands. -/
theorem Sat.turn (h : Sat w0 Rs w) (hs : Swap Rs R R' Rs') : ∃ S, R.holds S w ∧ (∀ k, S k → Dom w0 w k) ∧
    ∀ (S' : Nat → Prop) (w' : World), Turn S w w' → (∀ k, S' k → S k ∨ (w.heap.size ≤ k ∧ k < w'.heap.size)) → R'.holds S' w' → Sat w0 Rs' w' := by
  obtain ⟨Rt, h1, h2⟩ := hs.picks
  obtain ⟨S, hR, hS, hstep⟩ := (h.pick h1).step
  exact ⟨S, hR, hS, fun S' w' ht hsub hR' => (hstep [R'] w' ht ⟨S', hsub, hR', trivial⟩).back h2⟩
end sat

/-! ### a block of cells -/
def boxR (b : Nat) (cs : List Value) (T : TypeId) : Res where
  holds S w := S b ∧ w.heap[b]? = some (.cells cs.toArray T (0, 0))
  lcl S S' w w' h hw hS := ⟨hS b h.1, (hw b h.1).trans h.2⟩

section box
variable {w0 w w' : World} {Rs Rs' T : List Res} {b : Nat} {cs : List Value} {t : TypeId}
theorem Sat.holds {R : Res} (h : Sat w0 Rs w) (hp : Pick Rs R Rs') : ∃ S, R.holds S w ∧ ∀ k, S k → Dom w0 w k := by
  obtain ⟨_, S, hS, hR, _⟩ := h.pick hp
  exact ⟨S, hR, hS⟩
theorem Sat.box (h : Sat w0 Rs w) (hp : Pick Rs (boxR b cs t) Rs') : w.heap[b]? = some (.cells cs.toArray t (0, 0)) := by
  obtain ⟨S, hR, _⟩ := h.holds hp
  exact hR.2
theorem box_cell (hp : Pick Rs (boxR b cs t) Rs') {j : Nat} {v : Value} (hj : cs[j]? = some v) (w : World) (h : Sat w0 Rs w) : w.cell? ⟨b, j, none⟩ = some v := by
  simp [World.cell?, h.box hp, hj]
theorem Sat.alloc (h : Sat w0 Rs w) (cs : List Value) (t : TypeId) : Sat w0 (boxR w.heap.size cs t :: Rs) (w.alloc (.cells cs.toArray t)) :=
  h.fresh [boxR w.heap.size cs t] _ ⟨rfl, rfl, rfl, by simp, fun k hk _ => Below.heap_alloc w _ k hk⟩ ⟨fun k => k = w.heap.size, fun k hk => by subst hk; simp, ⟨rfl, by simpa using heap_alloc_new w _⟩, trivial⟩
theorem Sat.setCell (h : Sat w0 Rs w) {j : Nat} {v : Value} (hs : Swap Rs (boxR b cs t) (boxR b (cs.set j v) t) Rs') : Sat w0 Rs' (w.setCell ⟨b, j, none⟩ v) := by
  obtain ⟨S, hR, hS, hstep⟩ := h.turn hs
  refine hstep S _ ⟨rfl, rfl, rfl, by simp [World.setCell], fun k _ hk => Below.heap_setCell _ _ _ _ (fun e => hk (by rw [e]; exact hR.1))⟩ (fun k hk => .inl hk) ⟨hR.1, ?_⟩
  simp only [World.setCell, Array.getElem?_modify, if_true, hR.2]
  simp
end box
end Go.Sx

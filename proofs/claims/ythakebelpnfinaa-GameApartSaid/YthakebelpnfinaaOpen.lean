/- A game that is handed in is one that can be read. -/
import Derived.Test.YthakebelpnfinaaSxI
import Derived.Test.YthakebelpnfinaaG14
set_option linter.unusedVariables false
set_option linter.unusedSimpArgs false
namespace Go.Proofs.Ythakebelpnfinaa
open Go.RowKit Go.Sx
theorem ce3 : Try.prog.cellsOf 3 = 1 := by kernel_rfl
theorem ce4 : Try.prog.cellsOf 4 = 1 := by kernel_rfl
theorem ce22 : Try.prog.cellsOf 22 = 1 := by kernel_rfl
theorem ce23 : Try.prog.cellsOf 23 = 1 := by kernel_rfl
theorem ce25 : Try.prog.cellsOf 25 = 2 := by kernel_rfl
theorem ce29 : Try.prog.cellsOf 29 = 1 := by kernel_rfl
theorem ce38 : Try.prog.cellsOf 38 = 1 := by kernel_rfl
theorem ce41 : Try.prog.cellsOf 41 = 2 := by kernel_rfl
def MvQ (w : World) (y : Mv) : Prop := RdW w iE y.A y.to ∧ y.to.length ≤ maxLen
def MlQ (w : World) (y : Ml) : Prop := RdW w mvE y.A y.l ∧ y.l.length ≤ maxLen ∧ ∀ m ∈ y.l, MvQ w m
structure GmQ (w : World) (g : Gm) : Prop where
  goal : RdW w boolE g.A g.goal
  goalL : g.goal.length ≤ maxLen
  ms : RdW w mlE g.B g.ms
  msL : g.ms.length ≤ maxLen
  ml : ∀ m ∈ g.ms, MlQ w m
section
variable {H : Type} {enc : TypeId × Value → H} {w : World} {base : Nat} {spare : Nat → Bool} {held : Bool} {fuel : Nat} {cs : List Value} {x : DataW H × List MemPlace}
theorem open_mv (h : DataW.trod enc Try.prog w base spare held fuel 41 cs = some x) : ∃ y : Mv, cs = mvE.enc y ∧ MvQ w y := by
  have hl := open_len Try.underlying41 h
  rw [ce41] at hl
  obtain ⟨c0, c1, rfl⟩ : ∃ a b, cs = [a, b] := by
    match cs, hl with
    | [a, b], _ => exact ⟨_, _, rfl⟩
  obtain ⟨n0, y0, h0⟩ := open_fldN 0 3 0 1 Try.underlying41 h rfl ce3
  obtain ⟨n1, y1, h1⟩ := open_fldN 1 29 1 1 Try.underlying41 h rfl ce29
  obtain ⟨a0, e0, -⟩ := DataW.trod_int Try.underlying3 h0
  obtain ⟨A, c, l, e1, hr, -, hl1, hm, -⟩ := open_sl (E := iE) (Q := fun _ => True) Try.underlying29 ce3 (fun _ _ _ h => by obtain ⟨y, hy, _⟩ := open_i64 Try.underlying3 h; exact ⟨y, hy, trivial⟩) h1
  simp at e0 e1
  subst e0 e1
  exact ⟨⟨a0, A, c, l⟩, rfl, hr, Nat.le_trans hl1 hm⟩
theorem open_ml (h : DataW.trod enc Try.prog w base spare held fuel 38 cs = some x) : ∃ y : Ml, cs = mlE.enc y ∧ MlQ w y := by
  obtain ⟨A, c, l, rfl, hr, hq, hl1, hm, -⟩ := open_sl (E := mvE) (Q := MvQ w) Try.underlying38 ce41 (fun _ _ _ h => open_mv h) h
  exact ⟨⟨A, c, l⟩, rfl, hr, Nat.le_trans hl1 hm, hq⟩
theorem open_gm (h : DataW.trod enc Try.prog w base spare held fuel 25 cs = some x) : ∃ g : Gm, cs = gC g ∧ GmQ w g := by
  have hl := open_len Try.underlying25 h
  rw [ce25] at hl
  obtain ⟨c0, c1, rfl⟩ : ∃ a b, cs = [a, b] := by
    match cs, hl with
    | [a, b], _ => exact ⟨_, _, rfl⟩
  obtain ⟨n0, y0, h0⟩ := open_fldN 0 22 0 1 Try.underlying25 h rfl ce22
  obtain ⟨n1, y1, h1⟩ := open_fldN 1 23 1 1 Try.underlying25 h rfl ce23
  obtain ⟨A, c, l, e0, hr, -, hl1, hm, -⟩ := open_sl (E := boolE) (Q := fun _ => True) Try.underlying22 ce4 (fun _ _ _ h => by obtain ⟨y, hy, _⟩ := open_bl Try.underlying4 h; exact ⟨y, hy, trivial⟩) h0
  obtain ⟨B, d, ms, e1, hr2, hq2, hl2, hm2, -⟩ := open_sl (E := mlE) (Q := MlQ w) Try.underlying23 ce38 (fun _ _ _ h => open_ml h) h1
  simp at e0 e1
  subst e0 e1
  exact ⟨⟨A, c, l, B, d, ms⟩, rfl, hr, Nat.le_trans hl1 hm, hr2, Nat.le_trans hl2 hm2, hq2⟩
theorem open_game {v : Value} (hv : True) (h : ∃ fuel, DataW.trod enc Try.prog w base spare held fuel 25 v.cells.toList = some x) : ∃ g : Gm, v = gV g ∧ GmQ w g := by
  obtain ⟨fuel, h⟩ := h
  obtain ⟨g, e, hq⟩ := open_gm h
  refine ⟨g, ?_, hq⟩
  have e' : v.cells = (gC g).toArray := by rw [← e]
  cases v <;> simp [Value.cells] at e'
  subst e'; rfl
end
theorem GmQ.grd {w : World} {g : Gm} (h : GmQ w g) (Rs : List Res) : GRd (Sat w Rs) g :=
  ⟨h.goal.rd Rs, h.ms.rd Rs, fun i hi => (h.ml _ (List.getElem_mem hi)).1.rd Rs, fun i hi k hk => ((h.ml _ (List.getElem_mem hi)).2.2 _ (List.getElem_mem hk)).1.rd Rs⟩
theorem maxLen_le {n : Nat} (h : n ≤ maxLen) : n ≤ 9223372036854775807 := Nat.le_trans h (by decide)
theorem GmQ.lens {w : World} {g : Gm} (h : GmQ w g) : LenP g := ⟨maxLen_le h.msL, fun i hi => maxLen_le (h.ml _ (List.getElem_mem hi)).2.1⟩
end Go.Proofs.Ythakebelpnfinaa

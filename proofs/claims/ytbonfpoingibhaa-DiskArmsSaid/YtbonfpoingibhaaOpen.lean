/- Acts that are handed in. -/
import Derived.Test.YtbonfpoingibhaaSxI
import Derived.Test.YtbonfpoingibhaaE2
set_option linter.unusedVariables false
set_option linter.unusedSimpArgs false
namespace Go.Proofs.Ytbonfpoingibhaa
open Go.RowKit Go.Sx
theorem ce3 : Try.prog.cellsOf 3 = 1 := by kernel_rfl
theorem ce9 : Try.prog.cellsOf 9 = 1 := by kernel_rfl
theorem ce31 : Try.prog.cellsOf 31 = 1 := by kernel_rfl
theorem ce33 : Try.prog.cellsOf 33 = 5 := by kernel_rfl
def IntQ (y : Int) : Prop := -9223372036854775808 ≤ y ∧ y ≤ 9223372036854775807
def ActQ (w : World) (y : Act) : Prop := RdW w iE y.A y.k ∧ y.k.length ≤ maxLen ∧ y.n ≤ 9223372036854775807 ∧ y.s.length ≤ maxLen
section
variable {H : Type} {enc : TypeId × Value → H} {w : World} {base : Nat} {spare : Nat → Bool} {held : Bool} {fuel : Nat} {cs : List Value} {x : DataW H × List MemPlace}
theorem open_ci (h : DataW.trod enc Try.prog w base spare held fuel 3 cs = some x) : ∃ y : Int, cs = iE.enc y ∧ IntQ y := open_i64 Try.underlying3 h
theorem open_act (h : DataW.trod enc Try.prog w base spare held fuel 33 cs = some x) : ∃ y : Act, cs = actE.enc y ∧ ActQ w y := by
  have hl := open_len Try.underlying33 h
  rw [ce33] at hl
  obtain ⟨c0, c1, c2, c3, c4, rfl⟩ : ∃ a b c d e, cs = [a, b, c, d, e] := by
    match cs, hl with
    | [a, b, c, d, e], _ => exact ⟨_, _, _, _, _, rfl⟩
  obtain ⟨n0, y0, h0⟩ := open_fldN 0 3 0 1 Try.underlying33 h rfl ce3
  obtain ⟨n1, y1, h1⟩ := open_fldN 1 3 1 1 Try.underlying33 h rfl ce3
  obtain ⟨n2, y2, h2⟩ := open_fldN 2 3 2 1 Try.underlying33 h rfl ce3
  obtain ⟨n3, y3, h3⟩ := open_fldN 3 9 3 1 Try.underlying33 h rfl ce9
  obtain ⟨n4, y4, h4⟩ := open_fldN 4 31 4 1 Try.underlying33 h rfl ce31
  obtain ⟨a0, e0, -⟩ := DataW.trod_int Try.underlying3 h0
  obtain ⟨a1, e1, -⟩ := DataW.trod_int Try.underlying3 h1
  obtain ⟨a2, e2, w2⟩ := open_ci h2
  obtain ⟨a3, e3, -, hs⟩ := DataW.trod_string Try.underlying9 h3
  obtain ⟨A, c, l, e4, hr, -, hl1, hm, -⟩ := open_sl (E := iE) (Q := fun _ => True) Try.underlying31 ce3 (fun _ _ _ h => by obtain ⟨y, hy, _⟩ := open_ci h; exact ⟨y, hy, trivial⟩) h4
  obtain ⟨s, rfl⟩ := bs_of a3
  have e2' : [c2] = [Value.int .i64 a2] := e2
  simp at e0 e1 e2' e3 e4
  subst e0 e1 e2' e3 e4
  rw [bs_size] at hs
  exact ⟨⟨a0, a1, a2, s, A, c, l⟩, rfl, hr, Nat.le_trans hl1 hm, w2.2, hs⟩
end
theorem maxLen_le {n : Nat} (h : n ≤ maxLen) : n ≤ 9223372036854775807 := Nat.le_trans h (by decide)
theorem act_rd {w : World} {A : Option Addr} {l : List Act} (h : RdW w actE A l) (hq : ∀ y ∈ l, ActQ w y) (Rs : List Res) : ARd (Sat w Rs) A l :=
  ⟨h.rd Rs, fun i hi => (hq _ (List.getElem_mem hi)).1.rd Rs, fun i hi => (hq _ (List.getElem_mem hi)).2.2.1, fun i hi => ⟨maxLen_le (hq _ (List.getElem_mem hi)).2.2.2, maxLen_le (hq _ (List.getElem_mem hi)).2.1⟩⟩
end Go.Proofs.Ytbonfpoingibhaa

import Derived.Test.YtaocpjdhhjampaaSxI
import Derived.Test.YtaocpjdhhjampaaN8
set_option linter.unusedVariables false
set_option linter.unusedSimpArgs false
namespace Go.Proofs.Ytaocpjdhhjampaa
open Go.RowKit Go.Sx
theorem ce3 : Try.prog.cellsOf 3 = 1 := by kernel_rfl
theorem ce9 : Try.prog.cellsOf 9 = 1 := by kernel_rfl
theorem ce30 : Try.prog.cellsOf 30 = 4 := by kernel_rfl
def OcQ (y : Oc) : Prop := y.s.size ≤ maxLen
theorem open_oc {H : Type} {enc : TypeId × Value → H} {w : World} {base : Nat} {spare : Nat → Bool} {held : Bool} {fuel : Nat} {cs : List Value} {x : DataW H × List MemPlace}
    (h : DataW.trod enc Try.prog w base spare held fuel 30 cs = some x) : ∃ y : Oc, cs = ocE.enc y ∧ OcQ y := by
  have hl := open_len Try.underlying30 h
  rw [ce30] at hl
  obtain ⟨c0, c1, c2, c3, rfl⟩ : ∃ a b c d, cs = [a, b, c, d] := by
    match cs, hl with
    | [a, b, c, d], _ => exact ⟨_, _, _, _, rfl⟩
  obtain ⟨n0, y0, h0⟩ := open_fldN 0 3 0 1 Try.underlying30 h rfl ce3
  obtain ⟨n1, y1, h1⟩ := open_fldN 1 3 1 1 Try.underlying30 h rfl ce3
  obtain ⟨n2, y2, h2⟩ := open_fldN 2 3 2 1 Try.underlying30 h rfl ce3
  obtain ⟨n3, y3, h3⟩ := open_fldN 3 9 3 1 Try.underlying30 h rfl ce9
  obtain ⟨a0, e0, -⟩ := DataW.trod_int Try.underlying3 h0
  obtain ⟨a1, e1, -⟩ := DataW.trod_int Try.underlying3 h1
  obtain ⟨a2, e2, -⟩ := DataW.trod_int Try.underlying3 h2
  obtain ⟨a3, e3, -, hs⟩ := DataW.trod_string Try.underlying9 h3
  simp at e0 e1 e2 e3
  subst e0 e1 e2 e3
  exact ⟨⟨a0, a1, a2, a3⟩, rfl, hs⟩
end Go.Proofs.Ytaocpjdhhjampaa

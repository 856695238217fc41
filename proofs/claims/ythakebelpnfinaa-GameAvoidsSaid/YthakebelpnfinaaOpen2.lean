/- Numbers that are handed in. -/
import Derived.Test.YthakebelpnfinaaOpen
set_option linter.unusedVariables false
namespace Go.Proofs.Ythakebelpnfinaa
open Go.RowKit Go.Sx
def IntQ (y : Int) : Prop := -9223372036854775808 ≤ y ∧ y ≤ 9223372036854775807
theorem open_ci {H : Type} {enc : TypeId × Value → H} {w : World} {base : Nat} {spare : Nat → Bool} {held : Bool} {fuel : Nat} {cs : List Value} {x : DataW H × List MemPlace} (h : DataW.trod enc Try.prog w base spare held fuel 3 cs = some x) : ∃ y : Int, cs = iE.enc y ∧ IntQ y := open_i64 Try.underlying3 h
end Go.Proofs.Ythakebelpnfinaa

/- Sx, part L: min and max of two numbers; stored elements. -/
import Derived.Test.YtbonfpoingibhaaSxR
set_option linter.unusedVariables false
set_option linter.unusedSimpArgs false
namespace Go.Sx
open Go.RowKit
section
variable {P : Program} {C : World → Prop} {n : Nat} {ρ : Env} {dst : Option Nat} {ty : TypeId} {pos : String} {after : Array Edge} {g : Option (Nat × Bool)} {x y : Operand} {ts : Array TypeId} {k : IntKind} {a b c : Int}
theorem y_min (hx : ev n ρ x = .int k a) (hy : ev n ρ y = .int k b) (hc : (if b < a then b else a) = c) : Yld P C n ρ ⟨dst, .call { callee := .builtin .min, args := #[x, y], argTypes := ts }, ty, pos, after, g⟩ (.int k c) := by
  subst hc
  refine ⟨fun w _ => ?_⟩
  simp [execOp, resolve, invoke, builtin, hx, hy, Builtin.min_, Builtin.min2]
theorem y_max (hx : ev n ρ x = .int k a) (hy : ev n ρ y = .int k b) (hc : (if a < b then b else a) = c) : Yld P C n ρ ⟨dst, .call { callee := .builtin .max, args := #[x, y], argTypes := ts }, ty, pos, after, g⟩ (.int k c) := by
  subst hc
  refine ⟨fun w _ => ?_⟩
  simp [execOp, resolve, invoke, builtin, hx, hy, Builtin.max_, Builtin.max2]
end
end Go.Sx

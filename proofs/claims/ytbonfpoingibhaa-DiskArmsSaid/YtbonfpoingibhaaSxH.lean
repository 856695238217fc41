/- Sx, part H: equality of structs, conversions. -/
import Derived.Test.YtbonfpoingibhaaSxG
import Derived.Laws.StructEq
set_option linter.unusedVariables false
set_option linter.unusedSimpArgs false
namespace Go.Sx
open Go.RowKit

theorem eqF_nil {P : Program} {d : Nat} {xs ys : Array Value} (w : World) : (Op.eqFields d xs ys []).run P w = .ok true w := by simp [Op.eqFields]
theorem eqF_cons {P : Program} {d : Nat} {xs ys : Array Value} {f : Field} {fs : List Field} {a b : Value} {r s : Bool} (hn : f.name ≠ "_") (hT : TL P f.type false 1) (ha : xs[f.offset]? = some a) (hb : ys[f.offset]? = some b)
    (he : ∀ w, (Op.equalIn d f.type a b).run P w = .ok r w) (hr : ∀ w, (Op.eqFields d xs ys fs).run P w = .ok s w) (w : World) : (Op.eqFields d xs ys (f :: fs)).run P w = .ok (r && s) w := by
  rw [Op.eqFields]
  simp only [if_pos hn, part, Sem.run_bind, hT.isAgg, ha, hb, he, Result.andThen_ok, Bool.false_eq_true, if_false, Sem.run_pure]
  cases r
  · simp
  · simpa using hr w
theorem eqS_of {P : Program} {t : TypeId} {fs : Array Field} {xs ys : Array Value} {r : Bool} (hu : P.underlying t = some (.struct fs)) (hp : P.stoodInHeld t = false) (h : ∀ w, (Op.eqFields 9999 xs ys fs.toList).run P w = .ok r w) (w : World) : (Op.equal t (.agg xs) (.agg ys)).run P w = .ok r w := by
  have hf : P.fieldsOf t = fs := by simp [Program.fieldsOf, hu]
  show (Op.equalIn (9999 + 1) t _ _).run P w = _
  rw [run_equalIn_struct (P := P) w 9999 t xs ys (by rw [hf]; exact hu) hp, hf]
  exact h w
section ops
variable {P : Program} {C : World → Prop} {n : Nat} {ρ : Env} {dst : Option Nat} {ty : TypeId} {pos : String} {after : Array Edge} {g : Option (Nat × Bool)} {x y : Operand} {t u : TypeId} {k : IntKind} {a b c : Int}
theorem y_eqA {xs ys : Array Value} {r : Bool} (he : ∀ w, (Op.equal t (.agg xs) (.agg ys)).run P w = .ok r w) (hg : P.eqGuardType P.depth t = false) (hx : ev n ρ x = .agg xs) (hy : ev n ρ y = .agg ys) : Yld P C n ρ ⟨dst, .binOp .eql t x y u, ty, pos, after, g⟩ (.bool r) := by
  refine ⟨fun w _ => ?_⟩; simp [execOp, hx, hy, eqGuard, hg, binOp, he]
theorem y_neA {xs ys : Array Value} {r : Bool} (he : ∀ w, (Op.equal t (.agg xs) (.agg ys)).run P w = .ok r w) (hg : P.eqGuardType P.depth t = false) (hx : ev n ρ x = .agg xs) (hy : ev n ρ y = .agg ys) : Yld P C n ρ ⟨dst, .binOp .neq t x y u, ty, pos, after, g⟩ (.bool (!r)) := by
  refine ⟨fun w _ => ?_⟩; simp [execOp, hx, hy, eqGuard, hg, binOp, he]
theorem y_convI {s : TypeId} {ks k' : IntKind} (hs : P.underlying s = some (.int ks)) (ht : P.underlying t = some (.int k)) (hx : ev n ρ x = .int k' a) (h : k.wrap a = c) : Yld P C n ρ ⟨dst, .convert s t x, ty, pos, after, g⟩ (.int k c) := by
  refine ⟨fun w _ => ?_⟩
  subst h
  simp [execOp, hx, convert, run_underlying hs, run_underlying ht, Conv.intToInt]
end ops
end Go.Sx

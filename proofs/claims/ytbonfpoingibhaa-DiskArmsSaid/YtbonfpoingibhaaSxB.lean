/- Sx, part B: arithmetic, comparisons, strings. -/
import Derived.Test.YtbonfpoingibhaaSxA
import Derived.Laws.StructEq
import Derived.Laws.Small
import Derived.Laws.Cover3
set_option linter.unusedVariables false
set_option linter.unusedSimpArgs false
namespace Go.Sx
open Go.RowKit

theorem wrap_in (x : Int) (h0 : -9223372036854775808 ≤ x) (h1 : x ≤ 9223372036854775807) : IntKind.i64.wrap x = x := by
  rw [IntKind.wrap_i64]; omega

theorem bytes_beq (s s' : ByteArray) : (s.toList == s'.toList) = decide (s = s') := by
  rw [Bool.eq_iff_iff]; simp only [beq_iff_eq, decide_eq_true_eq, ByteArray.toList_eq]
  constructor
  · intro h
    cases s; cases s'; simp only [ByteArray.mk.injEq]
    exact Array.toList_inj.1 h
  · rintro rfl; rfl
theorem eqrun_ptr {P : Program} {t e : TypeId} (p : Option Addr) (ht : P.underlying t = some (.pointer e)) (w : World) : (Op.equal t (.pointer p) (.pointer none)).run P w = .ok p.isNone w := by
  show (Op.equalIn (9999 + 1) t _ _).run P w = _
  unfold Op.equalIn
  cases p <;> simp [run_underlying ht]
theorem eqrun_map {P : Program} {t k e : TypeId} (p : Option Nat) (ht : P.underlying t = some (.map k e)) (w : World) : (Op.equal t (.map p) (.map none)).run P w = .ok p.isNone w := by
  show (Op.equalIn (9999 + 1) t _ _).run P w = _
  unfold Op.equalIn
  cases p <;> simp [run_underlying ht]
theorem eqrun_slice {P : Program} {t e : TypeId} (p : Option Addr) (m c : Nat) (ht : P.underlying t = some (.slice e)) (w : World) : (Op.equal t (.slice p m c) (.slice none 0 0)).run P w = .ok p.isNone w := by
  show (Op.equalIn (9999 + 1) t _ _).run P w = _
  unfold Op.equalIn
  cases p <;> simp [run_underlying ht]
theorem eqrun_bool {P : Program} {t : TypeId} (a b : Bool) (ht : P.underlying t = some .bool) (w : World) : (Op.equal t (.bool a) (.bool b)).run P w = .ok (a == b) w := by
  show (Op.equalIn (9999 + 1) t _ _).run P w = _
  unfold Op.equalIn
  simp [run_underlying ht]

section ops
variable {P : Program} {C : World → Prop} {n : Nat} {ρ : Env} {dst : Option Nat} {ty : TypeId} {pos : String} {after : Array Edge} {g : Option (Nat × Bool)} {x y : Operand} {t u : TypeId} {k : IntKind} {a b c : Int}

theorem y_add (hx : ev n ρ x = .int .i64 a) (hy : ev n ρ y = .int .i64 b) (h : -9223372036854775808 ≤ a + b ∧ a + b ≤ 9223372036854775807) : Yld P C n ρ ⟨dst, .binOp .add t x y u, ty, pos, after, g⟩ (.int .i64 (a + b)) := by
  refine ⟨fun w _ => ?_⟩; simp [execOp, hx, hy, eqGuard_add, binOp_add, Op.intArith, wrap_in _ h.1 h.2]
theorem y_addk (hx : ev n ρ x = .int k a) (hy : ev n ρ y = .int k b) (h : k.wrap (a + b) = c) : Yld P C n ρ ⟨dst, .binOp .add t x y u, ty, pos, after, g⟩ (.int k c) := by
  refine ⟨fun w _ => ?_⟩; simp [execOp, hx, hy, eqGuard_add, binOp_add, Op.intArith, h]
theorem y_sub (hx : ev n ρ x = .int .i64 a) (hy : ev n ρ y = .int .i64 b) (h : -9223372036854775808 ≤ a - b ∧ a - b ≤ 9223372036854775807) : Yld P C n ρ ⟨dst, .binOp .sub t x y u, ty, pos, after, g⟩ (.int .i64 (a - b)) := by
  refine ⟨fun w _ => ?_⟩; simp [execOp, hx, hy, eqGuard_sub, binOp_sub, Op.intArith, wrap_in _ h.1 h.2]
theorem y_subk (hx : ev n ρ x = .int k a) (hy : ev n ρ y = .int k b) (h : k.wrap (a - b) = c) : Yld P C n ρ ⟨dst, .binOp .sub t x y u, ty, pos, after, g⟩ (.int k c) := by
  refine ⟨fun w _ => ?_⟩; simp [execOp, hx, hy, eqGuard_sub, binOp_sub, Op.intArith, h]
theorem y_mul (hx : ev n ρ x = .int .i64 a) (hy : ev n ρ y = .int .i64 b) (h : -9223372036854775808 ≤ a * b ∧ a * b ≤ 9223372036854775807) : Yld P C n ρ ⟨dst, .binOp .mul t x y u, ty, pos, after, g⟩ (.int .i64 (a * b)) := by
  refine ⟨fun w _ => ?_⟩; simp [execOp, hx, hy, eqGuard_mul, binOp_mul, Op.intArith, wrap_in _ h.1 h.2]
theorem y_quo (hx : ev n ρ x = .int .i64 a) (hy : ev n ρ y = .int .i64 b) (hb : b ≠ 0) (h : -9223372036854775808 ≤ a.tdiv b ∧ a.tdiv b ≤ 9223372036854775807) : Yld P C n ρ ⟨dst, .binOp .quo t x y u, ty, pos, after, g⟩ (.int .i64 (a.tdiv b)) := by
  refine ⟨fun w _ => ?_⟩; simp [execOp, hx, hy, eqGuard_quo, binOp_quo, Op.intDiv, hb, wrap_in _ h.1 h.2]
theorem y_rem (hx : ev n ρ x = .int k a) (hy : ev n ρ y = .int k b) (hb : b ≠ 0) : Yld P C n ρ ⟨dst, .binOp .rem t x y u, ty, pos, after, g⟩ (.int k (a.tmod b)) := by
  refine ⟨fun w _ => ?_⟩; simp [execOp, hx, hy, eqGuard_rem, binOp_rem, Op.intDiv, hb]
/-- a quotient that is not negative, as Lean's own -/
theorem y_quoN (hx : ev n ρ x = .int .i64 a) (hy : ev n ρ y = .int .i64 b) (ha : 0 ≤ a) (ha' : a ≤ 9223372036854775807) (hb : 0 < b) : Yld P C n ρ ⟨dst, .binOp .quo t x y u, ty, pos, after, g⟩ (.int .i64 (a / b)) := by
  have e : a.tdiv b = a / b := Int.tdiv_eq_ediv_of_nonneg ha
  have h1 : 0 ≤ a / b := Int.ediv_nonneg ha (by omega)
  have h2 : a / b ≤ a := Int.ediv_le_self _ ha
  have := y_quo (P := P) (C := C) (dst := dst) (ty := ty) (pos := pos) (after := after) (g := g) (t := t) (u := u) hx hy (by omega) (by rw [e]; omega)
  rwa [e] at this
theorem y_remN (hx : ev n ρ x = .int k a) (hy : ev n ρ y = .int k b) (ha : 0 ≤ a) (hb : 0 < b) : Yld P C n ρ ⟨dst, .binOp .rem t x y u, ty, pos, after, g⟩ (.int k (a % b)) := by
  have e : a.tmod b = a % b := Int.tmod_eq_emod_of_nonneg ha
  have := y_rem (P := P) (C := C) (dst := dst) (ty := ty) (pos := pos) (after := after) (g := g) (t := t) (u := u) hx hy (by omega)
  rwa [e] at this
theorem y_lss (hx : ev n ρ x = .int k a) (hy : ev n ρ y = .int k b) : Yld P C n ρ ⟨dst, .binOp .lss t x y u, ty, pos, after, g⟩ (.bool (decide (a < b))) := by
  refine ⟨fun w _ => ?_⟩; simp [execOp, hx, hy, eqGuard_lss, binOp, Op.intCmp]
theorem y_leq (hx : ev n ρ x = .int k a) (hy : ev n ρ y = .int k b) : Yld P C n ρ ⟨dst, .binOp .leq t x y u, ty, pos, after, g⟩ (.bool (decide (a ≤ b))) := by
  refine ⟨fun w _ => ?_⟩; simp [execOp, hx, hy, eqGuard_leq, binOp, Op.intCmp]
theorem y_gtr (hx : ev n ρ x = .int k a) (hy : ev n ρ y = .int k b) : Yld P C n ρ ⟨dst, .binOp .gtr t x y u, ty, pos, after, g⟩ (.bool (decide (b < a))) := by
  refine ⟨fun w _ => ?_⟩; simp [execOp, hx, hy, eqGuard_gtr, binOp, Op.intCmp]
theorem y_geq (hx : ev n ρ x = .int k a) (hy : ev n ρ y = .int k b) : Yld P C n ρ ⟨dst, .binOp .geq t x y u, ty, pos, after, g⟩ (.bool (decide (b ≤ a))) := by
  refine ⟨fun w _ => ?_⟩; simp [execOp, hx, hy, eqGuard_geq, binOp, Op.intCmp]
theorem y_eqi (hx : ev n ρ x = .int k a) (hy : ev n ρ y = .int k b) : Yld P C n ρ ⟨dst, .binOp .eql t x y u, ty, pos, after, g⟩ (.bool (decide (a = b))) := by
  refine ⟨fun w _ => ?_⟩; simp [execOp, hx, hy, eqGuard_at_int, binOp, Op.intCmp]; rfl
theorem y_nei (hx : ev n ρ x = .int k a) (hy : ev n ρ y = .int k b) : Yld P C n ρ ⟨dst, .binOp .neq t x y u, ty, pos, after, g⟩ (.bool (!decide (a = b))) := by
  refine ⟨fun w _ => ?_⟩; simp [execOp, hx, hy, eqGuard_at_int, binOp, Op.intCmp]; rfl
theorem y_and (hx : ev n ρ x = .int k a) (hy : ev n ρ y = .int k b) (h : bits .and k a b = c) : Yld P C n ρ ⟨dst, .binOp .and t x y u, ty, pos, after, g⟩ (.int k c) := by
  refine ⟨fun w _ => ?_⟩; subst h; simp [execOp, hx, hy, eqGuard_and, binOp_and, go_sem]
theorem y_or (hx : ev n ρ x = .int k a) (hy : ev n ρ y = .int k b) (h : bits .or k a b = c) : Yld P C n ρ ⟨dst, .binOp .or t x y u, ty, pos, after, g⟩ (.int k c) := by
  refine ⟨fun w _ => ?_⟩; subst h; simp [execOp, hx, hy, eqGuard_or, binOp_or, go_sem]
theorem y_shr {k' : IntKind} (hx : ev n ρ x = .int k a) (hy : ev n ρ y = .int k' b) (hb : 0 ≤ b) (h : a.fdiv (2 ^ min b.toNat k.bits) = c) : Yld P C n ρ ⟨dst, .binOp .shr t x y u, ty, pos, after, g⟩ (.int k c) := by
  refine ⟨fun w _ => ?_⟩; subst h; simp [execOp, hx, hy, eqGuard_shr, binOp, Op.shift, show ¬ b < 0 by omega]
theorem y_shl {k' : IntKind} (hx : ev n ρ x = .int k a) (hy : ev n ρ y = .int k' b) (hb : 0 ≤ b) (h : k.wrap (a * 2 ^ min b.toNat k.bits) = c) : Yld P C n ρ ⟨dst, .binOp .shl t x y u, ty, pos, after, g⟩ (.int k c) := by
  refine ⟨fun w _ => ?_⟩; subst h; simp [execOp, hx, hy, eqGuard_shl, binOp, Op.shift, show ¬ b < 0 by omega]
/-- pointers and nil -/
theorem y_eqp {p : Option Addr} (e : TypeId) (ht : P.underlying t = some (.pointer e)) (hx : ev n ρ x = .pointer p) (hy : ev n ρ y = .pointer none) : Yld P C n ρ ⟨dst, .binOp .eql t x y u, ty, pos, after, g⟩ (.bool p.isNone) := by
  refine ⟨fun w _ => ?_⟩; cases p <;> simp [execOp, hx, hy, eqGuard_at_pointer, binOp, eqrun_ptr _ ht]
theorem y_nep {p : Option Addr} (e : TypeId) (ht : P.underlying t = some (.pointer e)) (hx : ev n ρ x = .pointer p) (hy : ev n ρ y = .pointer none) : Yld P C n ρ ⟨dst, .binOp .neq t x y u, ty, pos, after, g⟩ (.bool p.isSome) := by
  refine ⟨fun w _ => ?_⟩; cases p <;> simp [execOp, hx, hy, eqGuard_at_pointer, binOp, eqrun_ptr _ ht]
/-- a slice and nil -/
theorem y_eqsl {p : Option Addr} {m c : Nat} (e : TypeId) (ht : P.underlying t = some (.slice e)) (hx : ev n ρ x = .slice p m c) (hy : ev n ρ y = .slice none 0 0) : Yld P C n ρ ⟨dst, .binOp .eql t x y u, ty, pos, after, g⟩ (.bool p.isNone) := by
  refine ⟨fun w _ => ?_⟩; cases p <;> simp [execOp, hx, hy, eqGuard_at_slice, binOp, eqrun_slice _ _ _ ht]
theorem y_nesl {p : Option Addr} {m c : Nat} (e : TypeId) (ht : P.underlying t = some (.slice e)) (hx : ev n ρ x = .slice p m c) (hy : ev n ρ y = .slice none 0 0) : Yld P C n ρ ⟨dst, .binOp .neq t x y u, ty, pos, after, g⟩ (.bool p.isSome) := by
  refine ⟨fun w _ => ?_⟩; cases p <;> simp [execOp, hx, hy, eqGuard_at_slice, binOp, eqrun_slice _ _ _ ht]
/-- a map and nil -/
theorem y_eqmap {p : Option Nat} (k' e : TypeId) (ht : P.underlying t = some (.map k' e)) (hx : ev n ρ x = .map p) (hy : ev n ρ y = .map none) : Yld P C n ρ ⟨dst, .binOp .eql t x y u, ty, pos, after, g⟩ (.bool p.isNone) := by
  refine ⟨fun w _ => ?_⟩; cases p <;> simp [execOp, hx, hy, eqGuard_at_map, binOp, eqrun_map _ ht]
/-- strings -/
theorem y_eqs {s s' : ByteArray} (hx : ev n ρ x = .string s) (hy : ev n ρ y = .string s') : Yld P C n ρ ⟨dst, .binOp .eql t x y u, ty, pos, after, g⟩ (.bool (decide (s = s'))) := by
  refine ⟨fun w _ => ?_⟩; simp [execOp, hx, hy, eqGuard_at_string, binOp, Op.stringOp, bytes_beq]
theorem y_nes {s s' : ByteArray} (hx : ev n ρ x = .string s) (hy : ev n ρ y = .string s') : Yld P C n ρ ⟨dst, .binOp .neq t x y u, ty, pos, after, g⟩ (.bool (!decide (s = s'))) := by
  refine ⟨fun w _ => ?_⟩; simp [execOp, hx, hy, eqGuard_at_string, binOp, Op.stringOp, bytes_beq]
/-- bools -/
theorem y_eqb {s s' : Bool} (ht : P.underlying t = some .bool) (hx : ev n ρ x = .bool s) (hy : ev n ρ y = .bool s') : Yld P C n ρ ⟨dst, .binOp .eql t x y u, ty, pos, after, g⟩ (.bool (s == s')) := by
  refine ⟨fun w _ => ?_⟩; simp [execOp, hx, hy, eqGuard_at_bool, binOp, eqrun_bool _ _ ht]
theorem y_neb {s s' : Bool} (ht : P.underlying t = some .bool) (hx : ev n ρ x = .bool s) (hy : ev n ρ y = .bool s') : Yld P C n ρ ⟨dst, .binOp .neq t x y u, ty, pos, after, g⟩ (.bool (s != s')) := by
  refine ⟨fun w _ => ?_⟩; simp [execOp, hx, hy, eqGuard_at_bool, binOp, eqrun_bool _ _ ht]; cases s <;> cases s' <;> rfl
end ops
end Go.Sx

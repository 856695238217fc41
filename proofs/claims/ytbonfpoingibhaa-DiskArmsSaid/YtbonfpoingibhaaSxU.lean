/- Sx, part U: maps.clone, values in interfaces, counting. -/
import Derived.Test.YtbonfpoingibhaaSxT
set_option linter.unusedVariables false
set_option linter.unusedSimpArgs false
set_option linter.unusedSectionVars false
namespace Go.Sx
open Go.RowKit
/-- A function that is the library's own maps.clone. -/
class EC (P : Program) (f : FuncId) : Prop where
  fn : ∃ fn, P.funcs[f]? = some fn ∧ (fn.name == "runtime.NumGoroutine") = false ∧ fn.body.isNone = true ∧ Extern.findNext fn = none ∧ Extern.find fn = some Extern.MapsClone.clone
theorem run_mclone {P : Program} {w : World} {r : Nat} {es : Array MapEntry} {clock : Nat} (t : TypeId) (hb : w.heap[r]? = some (.map es clock)) :
    (Extern.MapsClone.clone #[.iface t (.map (some r))]).run P w = .ok (.iface t (.map (some w.heap.size))) (w.alloc (.map es clock)) := by
  have e : Extern.MapsClone.clone #[.iface t (.map (some r))] = (getObj r >>= fun o => match o with
      | .map entries clock => (newObj (.map entries clock) >>= fun n => pure (.iface t (.map (some n))))
      | _ => stuck "maps.clone: a map expected") := rfl
  rw [e]
  simp [run_getO hb, Result.andThen, go_sem]
section
variable {κ ν : Type} [DecidableEq κ] {P : Program} {l : List Oper} {k : Kt} {rest : List Oper} {n : Nat} {ρ : Env} {w w0 : World} {Rs Rs' Rt : List Res}
variable {ty : TypeId} {pos : String} {after : Array Edge} {g : Option (Nat × Bool)} {x y : Operand} {t u xt : TypeId} {d b : Nat} {dst : Option Nat} {C : World → Prop}
variable {K : κ → Value} {V : ν → Value} {m : List (κ × ν)}
theorem w_mcl {f : FuncId} {ts : Array TypeId} (hS : Sat w0 Rs w) [hf : EC P f] (hx : ev n ρ x = .iface t (.map (some b))) (hp : Pick Rs (mapR K V b m) Rt) (h : ∀ b' w', Sat w0 (mapR K V b' m :: Rs) w' → WL P l k rest n (upd ρ d (.iface t (.map (some b')))) w') :
    WL P l k (⟨some d, .call { callee := .value (.func f), args := #[x], argTypes := ts }, ty, pos, after, none⟩ :: rest) n ρ w := by
  obtain ⟨bn, clock, hm⟩ := hS.mapAt hp
  obtain ⟨fn, h1, h2, h3, h4, h5⟩ := hf.fn
  have hrun := run_callFunc_extern h1 h2 h3 h4 h5 #[.iface t (.map (some b))] w
  rw [run_mclone t hm.1] at hrun
  refine wv rfl (v := .iface t (.map (some w.heap.size))) (w' := w.alloc (.map (ents K V bn m).toArray clock)) ?_ (h w.heap.size _ ?_)
  · have hev : ev n ρ (.func f) = .func (.func f) #[] #[] := rfl
    simp only [execOp, resolve, hev, Deferred.ofValue, List.map_toArray, List.map_cons, List.map_nil, hx, invoke, Sem.run_bind, Sem.run_pure, Result.andThen, Array.append_empty, Array.empty_append]
    exact hrun
  · exact hS.fresh [mapR K V w.heap.size m] _ ⟨rfl, rfl, rfl, by simp, fun k hk _ => Below.heap_alloc w _ k hk⟩ ⟨fun k => k = w.heap.size, fun k hk => by subst hk; simp, ⟨rfl, bn, clock, heap_alloc_new w _, hm.2⟩, trivial⟩
theorem y_mkI {v : Value} {td : TypeDesc} (hx : ev n ρ x = v) (ht : P.underlying t = some td) (hi : (match td with | .interface _ => false | _ => true) = true) : Yld P C n ρ ⟨dst, .makeInterface t x, ty, pos, after, g⟩ (.iface t v) := by
  refine ⟨fun w _ => ?_⟩
  cases td <;> simp at hi <;> simp [execOp, hx, Instr.makeInterface, run_underlying ht]
theorem y_ta {v : Value} {td : TypeDesc} (hx : ev n ρ x = .iface t v) (ht : P.underlying t = some td) (hi : (match td with | .interface _ => false | _ => true) = true) : Yld P C n ρ ⟨dst, .typeAssert x xt t false, ty, pos, after, g⟩ v := by
  refine ⟨fun w _ => ?_⟩
  cases td <;> simp at hi <;> simp [execOp, hx, Instr.typeAssert, run_underlying ht]
end
theorem nodup_lt : ∀ (N : Nat) (l : List Nat), l.Nodup → (∀ x ∈ l, x < N) → l.length ≤ N
  | 0, l, _, h => by
    cases l with
    | nil => simp
    | cons x l => have := h x (by simp); omega
  | N + 1, l, hn, h => by
    have h1 := nodup_lt N (l.filter fun x => !decide (x = N)) (hn.filter _) (fun x hx => by
      obtain ⟨h2, h3⟩ := List.mem_filter.1 hx
      have := h x h2
      simp at h3
      omega)
    have h2 : l.length = (l.filter fun x => !decide (x = N)).length + l.countP (fun x => decide (x = N)) := by
      rw [List.length_eq_countP_add_countP (p := fun x => decide (x = N)), ← List.countP_eq_length_filter, Nat.add_comm]
      congr 1
      apply List.countP_congr
      intro x _
      simp
    have h3 : l.countP (fun x => decide (x = N)) ≤ 1 := by
      have := List.nodup_iff_count.1 hn N
      rw [List.count] at this
      refine Nat.le_trans (Nat.le_of_eq (List.countP_congr fun x _ => ?_)) this
      simp
    omega
end Go.Sx

import Derived.Test.YtaocpjdhhjampaaRows
import Derived.Test.YtaocpjdhhjampaaN11
import Derived.Test.YtaocpjdhhjampaaOpen
import Derived.WalkKit
import Derived.ProofKit
import Derived.OpenShut
import Derived.ShutString
import Derived.ChangeOld
import Derived.Below
import Derived.Carry
import Derived.SizedLaws
set_option linter.unusedVariables false
set_option linter.unusedSimpArgs false
set_option maxRecDepth 100000
set_option maxHeartbeats 1000000
namespace Go.Proofs.Ytaocpjdhhjampaa
namespace LNetOrders
open Go.ChangeShapes Go.WideShapes Go.ChangeAt Go.RowKit Go.Sx
open Go.ChangeMaps (open_string shut_string)
theorem own : ownKnob Try.prog.godebug = none := by kernel_rfl
theorem laidOut : laidOutB Try.prog = true := by kernel_rfl
theorem lifted (os : Os) (started : os.Started) (H : Type) (enc : TypeId × Value → H) :
    ReturnsInHanded {} Try.checked os 3 .any (Rows.netOrdersSpec.pre6 enc Try.prog Try.f3 Rows.netOrdersRow.domain false) (Rows.netOrdersSpec.post enc Try.prog Try.f3 false true false false) := by
  refine returnsInHanded_of_change_sized (C := Try.checked) own started (by kernel_rfl) Try.func3
    (ChangeSpec.witness6 (enc := enc) (C := Try.checked) false ⟨#[], #[.slice none 0 0, .slice none 0 0], []⟩ 8 (by kernel_rfl) (by kernel_rfl) (by kernel_rfl) (by kernel_rfl)) ?_
  intro W base args ds gs before hval0 hW hcnd hsz0 _
  have hsz : (DataW.weightsEach Try.prog (Try.f3.params.toList ++ Rows.netOrdersSpec.plain.varTypes Try.prog) (ds ++ gs)).all (· ≤ reachBytes) = true := hsz0
  have hval : ∀ (j : Nat) t v, Try.f3.params[j]? = some t → args[j]? = some v → Value.okWide Try.prog W .any base t v := hval0
  have hW' := hW
  obtain ⟨p, q, hA0, hV, rfl, hfz, hnd⟩ := hW
  have hA : DataW.TrodAll enc Try.prog W 0 (fun _ => true) true Try.f3.params.toList args.toList ds p := hA0
  rw [Try.params3] at hA hval hsz
  obtain ⟨v0, vs0, d0, ds0, p0, q0, hargs, rfl, rfl, h0, r0⟩ := trodAll_cons hA
  obtain ⟨v1, vs1, d1, ds1, p1, q1, rfl, rfl, rfl, h1, r1⟩ := trodAll_cons r0
  obtain ⟨rfl, rfl, rfl⟩ := trodAll_nil r1
  obtain rfl : args = #[v0, v1] := by cases args; simp_all
  obtain ⟨rfl, rfl⟩ := trodVars_none hV
  have k0 := h0
  have lt0 : ∀ x ∈ p0, x.block < W.heap.size := by obtain ⟨m, hm⟩ := k0; exact DataW.trod_lt m _ _ _ hm
  obtain ⟨a0, len0, cap0, rfl⟩ := okWide_slice Try.underlying22 (hval 0 22 v0 rfl rfl)
  obtain ⟨A0, c0, l0, e0, hr0, hq0, hl0, hm0, hn0⟩ : ∃ (A : Option Addr) (cap : Nat) (l : List _), (Value.slice a0 len0 cap0).cells.toList = [.slice A l.length cap] ∧ RdW W ocE A l ∧ (∀ y ∈ l, (OcQ) y) ∧ l.length ≤ cap ∧ cap ≤ maxLen ∧ (A = none → l = [] ∧ cap = 0) := by
    obtain ⟨fuel, hf⟩ := h0
    exact open_sl (E := ocE) (Q := OcQ) Try.underlying22 (by kernel_rfl) (fun _ _ _ h => open_oc h) hf
  simp only [Value.cells, List.cons.injEq, Value.slice.injEq, and_true] at e0
  obtain ⟨rfl, rfl, rfl⟩ := e0
  have k1 := h1
  have lt1 : ∀ x ∈ p1, x.block < W.heap.size := by obtain ⟨m, hm⟩ := k1; exact DataW.trod_lt m _ _ _ hm
  obtain ⟨a1, len1, cap1, rfl⟩ := okWide_slice Try.underlying23 (hval 1 23 v1 rfl rfl)
  obtain ⟨A1, c1, l1, e1, hr1, hq1, hl1, hm1, hn1⟩ : ∃ (A : Option Addr) (cap : Nat) (l : List _), (Value.slice a1 len1 cap1).cells.toList = [.slice A l.length cap] ∧ RdW W (intE .i64) A l ∧ (∀ y ∈ l, ((fun y => -9223372036854775808 ≤ y ∧ y ≤ 9223372036854775807)) y) ∧ l.length ≤ cap ∧ cap ≤ maxLen ∧ (A = none → l = [] ∧ cap = 0) := by
    obtain ⟨fuel, hf⟩ := h1
    exact open_sl (E := (intE .i64)) (Q := (fun y => -9223372036854775808 ≤ y ∧ y ≤ 9223372036854775807)) Try.underlying23 (by kernel_rfl) (fun _ _ _ h => open_i64 Try.underlying3 h) hf
  simp only [Value.cells, List.cons.injEq, Value.slice.injEq, and_true] at e1
  obtain ⟨rfl, rfl, rfl⟩ := e1
  clear hA0 hval0 hsz0
  refine ((orders_ct a0 cap0 l0 a1 cap1 l1 W [] (fun Rs => hr0.rd Rs) (fun Rs => hr1.rd Rs) (Nat.le_trans hl0 (Nat.le_trans hm0 (by decide)))).out W (Sat.init W)).mono fun e W' hR => ?_
  obtain ⟨v, Rs', rfl, ⟨rfl, -⟩, hS⟩ := hR
  have bel : Below W.heap.size W W' := hS.1
  exact ⟨_, rfl, _, _, _, [], _, [], hW', trodAll_mk1 (shut_bool Try.underlying4 _), (trodAll_cons_mk (Below.trod laidOut (by kernel_rfl) (of_decide_eq_true (by kernel_rfl)) k0 bel lt0) (trodAll_cons_mk (Below.trod laidOut (by kernel_rfl) (of_decide_eq_true (by kernel_rfl)) k1 bel lt1) trodAll_mk0)), rfl, bel.frame _, fun h => by cases h⟩
theorem over : Rows.netOrdersRow.holds Try.pinned (OpenSpec.ofChange Rows.netOrdersSpec) :=
  OpenClaim.holds_of_wide 3 Try.f3 rfl rfl rfl rfl rfl rfl rfl ⟨rfl, rfl, rfl, rfl, rfl⟩ rfl rfl rfl rfl rfl (by kernel_rfl) Try.func3 (by kernel_rfl)
    (of_decide_eq_true (by kernel_rfl)) (by unfold Func.isWrapper; first | (rw [if_pos (by decide +kernel)]; kernel_rfl) | (rw [if_neg (by decide +kernel)]; exact ⟨rfl, rfl⟩))
    (fun os started H enc _ => lifted os started H enc)
theorem proved : Rows.NetOrdersSaid := over
#print axioms proved
end LNetOrders
theorem NetOrders_holds : Rows.NetOrdersSaid := LNetOrders.proved
end Go.Proofs.Ytaocpjdhhjampaa

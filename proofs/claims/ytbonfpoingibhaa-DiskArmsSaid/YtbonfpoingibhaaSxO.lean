/- Sx, part O: slice literals of any length. -/
import Derived.Test.YtbonfpoingibhaaSxN
set_option linter.unusedVariables false
set_option linter.unusedSimpArgs false
namespace Go.Sx
open Go.RowKit

def idxP {α : Type} : Nat → List α → List (Nat × α)
  | _, [] => []
  | k, x :: xs => (k, x) :: idxP (k + 1) xs
theorem idxP_map {α β : Type} (f : α → β) : ∀ (xs : List α) (k : Nat), (idxP k xs).map (fun p => (p.1, f p.2)) = idxP k (xs.map f)
  | [], _ => rfl
  | x :: xs, k => by simp [idxP, idxP_map f xs]
def flatC (vals : List Value) : List Value := vals.flatMap (fun v => v.cells.toList)
theorem fold_set : ∀ (vs : List Value) (cs : Array Value) (off j0 : Nat), off + j0 + vs.length ≤ cs.size → (vs.zipIdx j0).foldl (fun cs (p : Value × Nat) => cs.setIfInBounds (off + p.2) p.1) cs = (cs.toList.take (off + j0) ++ vs ++ cs.toList.drop (off + j0 + vs.length)).toArray := by
  intro vs
  induction vs with
  | nil => intro cs off j0 h; simp
  | cons v vs ih =>
    intro cs off j0 h
    have hj : off + j0 < cs.size := by simp at h; omega
    rw [List.zipIdx_cons, List.foldl_cons, ih _ off (j0 + 1) (by simp at h ⊢; omega)]
    congr 1
    rw [Array.toList_setIfInBounds, show off + (j0 + 1) = off + j0 + 1 by omega]
    rw [List.take_add_one]
    rw [List.drop_set_of_lt (by omega)]
    simp [hj, List.take_set_of_le]
    congr 1; omega
theorem fill_seq (sz : Nat) : ∀ (vals : List Value) (k : Nat) (cs : Array Value), (∀ v ∈ vals, v.cells.size = sz) → cs.size = (k + vals.length) * sz → Instr.fill (fun i => some (i * sz, sz)) cs (idxP k vals) = some (cs.toList.take (k * sz) ++ flatC vals).toArray := by
  intro vals
  induction vals with
  | nil =>
    intro k cs _ h
    simp at h
    have : cs.toList.take (k * sz) = cs.toList := List.take_of_length_le (by simp [h])
    simp [idxP, Instr.fill, flatC, this]
  | cons v vals ih =>
    intro k cs hv h
    have h1 := hv v (by simp)
    have h2 : (k + 1) * sz ≤ cs.size := by rw [h]; exact Nat.mul_le_mul_right _ (by simp)
    rw [Nat.succ_mul] at h2
    unfold idxP Instr.fill
    simp only [h1]
    rw [if_neg (by simp; omega)]
    have e : (v.cells.zipIdx.foldl (fun cs (p : Value × Nat) => cs.setIfInBounds (k * sz + p.2) p.1) cs) = (cs.toList.take (k * sz) ++ v.cells.toList ++ cs.toList.drop (k * sz + sz)).toArray := by
      have := fold_set v.cells.toList cs (k * sz) 0 (by simp [h1]; omega)
      rw [Nat.add_zero] at this
      rw [← Array.foldl_toList, Array.toList_zipIdx, this]
      simp [h1]
    have hsz : (cs.toList.take (k * sz) ++ v.cells.toList ++ cs.toList.drop (k * sz + sz)).toArray.size = (k + 1 + vals.length) * sz := by
      have h3 : cs.size = k * sz + sz + vals.length * sz := by rw [h, List.length_cons, Nat.add_mul, Nat.succ_mul]; omega
      have h4 : (k + 1 + vals.length) * sz = k * sz + sz + vals.length * sz := by rw [Nat.add_mul, Nat.succ_mul]
      rw [h4]
      simp [h1, h3]
      omega
    have := ih (k + 1) _ (fun v hv' => hv v (by simp [hv'])) hsz
    refine Eq.trans (congrArg (fun c => Instr.fill (fun i => some (i * sz, sz)) c (idxP (k + 1) vals)) e) (this.trans ?_)
    congr 2
    have hl : (cs.toList.take (k * sz) ++ v.cells.toList).length = (k + 1) * sz := by simp [h1, Nat.succ_mul]; omega
    rw [List.take_append_of_le_length (by rw [hl]; exact Nat.le_refl _), List.take_of_length_le (by rw [hl]; exact Nat.le_refl _)]
    simp [flatC]
section
variable {P : Program} {l : List Oper} {k : Kt} {rest : List Oper} {n : Nat} {ρ : Env} {w w0 : World} {Rs : List Res}
variable {ty : TypeId} {pos : String} {after : Array Edge} {t T : TypeId}
/-- a slice literal -/
theorem w_bsN {d m sz : Nat} {agg : Bool} {parts : Array (Nat × Operand)} {vs z : List Value} (xs : List Operand) (vals : List Value) (hS : Sat w0 Rs w) (h : ∀ b w', Sat w0 (boxR b vs T :: Rs) w' → WL P l k rest n (upd ρ d (.slice (some ⟨b, 0, none⟩) m m)) w')
    (hps : parts = (idxP 0 xs).toArray := by rfl) (hv : xs.map (ev n ρ) = vals := by rfl) (hm : xs.length = m := by rfl) (hvs : flatC vals = vs := by rfl) [hu : IsSl P t T] [hT : TL P T agg sz] [hZ : ZV P T z] (hl : vals.all (fun v => v.cells.size == sz) = true := by rfl) (hlz : z.length = sz := by rfl) (hsz : 0 < m ∧ m ≤ 1000 ∧ 0 < sz ∧ sz ≤ 1000 := by decide) :
    WL P l k (⟨some d, .buildSlice t m parts, ty, pos, after, none⟩ :: rest) n ρ w := by
  refine wv rfl (v := .slice (some ⟨w.heap.size, 0, none⟩) m m) (w' := w.alloc (.cells vs.toArray T)) ?_ (h _ _ (hS.alloc vs T))
  obtain ⟨zv, hz, hc⟩ := hZ.run w
  subst hps
  have h1 : m * sz ≤ 1000 * 1000 := Nat.mul_le_mul (by omega) (by omega)
  have h2 : 0 < m * sz := Nat.mul_pos hsz.1 hsz.2.2.1
  have hsz0 : ¬ m * sz = 0 := by omega
  have hsz0' : ¬ (m = 0 ∨ sz = 0) := by omega
  have hsz1 : ¬ m * sz > 2 ^ 24 := by omega
  have hf := fill_seq sz vals 0 ((Array.range (m * sz)).map (z.toArray[· % z.toArray.size]!)) (fun v hv => by simpa using List.all_eq_true.1 hl v hv) (by simp [← hm, ← hv])
  simp only [Nat.zero_mul, List.take_zero, List.nil_append, hvs] at hf
  have e : (Array.map (fun p : Nat × Operand => (p.1, ev n ρ p.2)) (idxP 0 xs).toArray).toList = idxP 0 vals := by simp [idxP_map, hv]
  have hb : (Instr.buildSlice t m (Array.map (fun p : Nat × Operand => (p.1, ev n ρ p.2)) (idxP 0 xs).toArray)).run P w = .ok (.slice (some ⟨w.heap.size, 0, none⟩) m m) (w.alloc (.cells vs.toArray T)) := by
    unfold Instr.buildSlice
    rw [e]
    simp only [Sem.run_bind, run_underlying hu.out, Result.andThen, hT.sizeOf, Sem.run_pure]
    rw [if_neg hsz1, if_neg hsz0]
    simp only [Sem.run_bind, Result.andThen, Sem.run_pure, hz, hc, hf]
    simp [newRow, newObj, Sem.run]
  simp only [execOp, Sem.run_bind, hb, Result.andThen, Sem.run_pure]
end
end Go.Sx

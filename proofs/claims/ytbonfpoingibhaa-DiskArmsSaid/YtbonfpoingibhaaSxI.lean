/- Sx, part I: arguments that are slices of elements, opened. -/
import Derived.Test.YtbonfpoingibhaaSxH
import Derived.Deep.Slices
import Derived.ChangeArms
import Derived.DataShut
set_option linter.unusedVariables false
set_option linter.unusedSimpArgs false
namespace Go.Sx
open Go.RowKit Go.Deep
variable {τ : Type}

/-- What lies behind a slice that came in. -/
def RdW (w : World) (E : Enc τ) (A : Option Addr) (l : List τ) : Prop :=
  ∀ i x, l[i]? = some x → ∃ ad, A = some ad ∧ ∀ j v, (E.enc x)[j]? = some v → w.cell? (ad.add (i * E.sz + j)) = some v
theorem RdW.rd {w : World} {E : Enc τ} {A : Option Addr} {l : List τ} (h : RdW w E A l) (Rs : List Res) : Rd (Sat w Rs) E A l := Rd.arg h
theorem list_of_fn {Q : Nat → τ → Prop} : ∀ (n : Nat), (∀ i, i < n → ∃ y, Q i y) → ∃ l : List τ, l.length = n ∧ ∀ i y, l[i]? = some y → Q i y
  | 0, _ => ⟨[], rfl, fun i y h => by simp at h⟩
  | n + 1, h => by
    obtain ⟨l, hl, hq⟩ := list_of_fn n (fun i hi => h i (by omega))
    obtain ⟨y, hy⟩ := h n (by omega)
    refine ⟨l ++ [y], by simp [hl], fun i z hz => ?_⟩
    by_cases hi : i < l.length
    · rw [List.getElem?_append_left hi] at hz
      exact hq i z hz
    · rw [List.getElem?_append_right (by omega)] at hz
      obtain ⟨h0, rfl⟩ : i - l.length = 0 ∧ y = z := by
        rcases Nat.eq_zero_or_pos (i - l.length) with h0 | h0
        · rw [h0] at hz; simp at hz; exact ⟨h0, hz⟩
        · rw [List.getElem?_eq_none (by simp; omega)] at hz; cases hz
      obtain rfl : i = n := by omega
      exact hy
section
variable {H : Type} {enc : TypeId × Value → H} {P : Program} {w : World} {base : Nat} {spare : Nat → Bool} {held : Bool} {t e : TypeId} {fuel : Nat} {cs : List Value} {x : DataW H × List MemPlace}
theorem open_sl {E : Enc τ} {Q : τ → Prop} (ht : P.underlying t = some (.slice e)) (hc : P.cellsOf e = E.sz)
    (hel : ∀ fuel cs x, DataW.trod enc P w base spare held fuel e cs = some x → ∃ y : τ, cs = E.enc y ∧ Q y)
    (h : DataW.trod enc P w base spare held fuel t cs = some x) :
    ∃ (A : Option Addr) (cap : Nat) (l : List τ), cs = [.slice A l.length cap] ∧ RdW w E A l ∧ (∀ y ∈ l, Q y) ∧ l.length ≤ cap ∧ cap ≤ maxLen ∧ (A = none → l = [] ∧ cap = 0) := by
  rcases open_slice ht h with ⟨rfl, _⟩ | ⟨a, len, cap, m, n, D, Pl, rfl, hb, hl, hm, hmm, rfl, hx⟩
  · exact ⟨none, 0, [], rfl, (fun i x h => by simp at h), (fun y h => by simp at h), Nat.le_refl _, Nat.zero_le _, fun _ => ⟨rfl, rfl⟩⟩
  · have hlm : len ≤ m := by rw [hmm]; split <;> omega
    obtain ⟨l, hll, hq⟩ := list_of_fn (Q := fun i y => Q y ∧ ∀ j v, (E.enc y)[j]? = some v → w.cell? (a.add (i * E.sz + j)) = some v) len (fun i hi => by
      obtain ⟨cs', hcs, htr⟩ := hx i (by omega)
      obtain ⟨y, rfl, hy⟩ := hel _ _ _ htr
      obtain ⟨_, hlen, hc'⟩ := World.cells?_some hcs
      refine ⟨y, hy, fun j v hj => ?_⟩
      have hlt : j < P.cellsOf e := by rw [hc, ← E.len y]; exact (List.getElem?_eq_some_iff.1 hj).1
      have := hc' j hlt
      rw [add_add, hc] at this
      rw [this, hj])
    refine ⟨some a, cap, l, by rw [hll], fun i y hy => ⟨a, rfl, (hq i y hy).2⟩, fun y hy => ?_, by omega, hm, fun h => by cases h⟩
    obtain ⟨i, hi⟩ := List.mem_iff_getElem?.1 hy
    exact (hq i y hi).1
/-- The field of a struct. -/
theorem open_fld {fs : Array Field} (ht : P.underlying t = some (.struct fs)) (h : DataW.trod enc P w base spare held fuel t cs = some x) (i : Nat) {f : Field} (hf : fs[i]? = some f) :
    ∃ n y, DataW.trod enc P w base spare held n f.type ((cs.drop f.offset).take (P.cellsOf f.type)) = some y := by
  obtain ⟨xs, n, _, _, _, hxl, hall⟩ := DataW.trod_struct ht h
  have hi : i < xs.length := by rw [hxl]; exact (Array.getElem?_eq_some_iff.1 hf).1
  exact ⟨n, xs[i], by rw [hall i f hf]; simp [hi]⟩
theorem open_fldN {fs : Array Field} (i ty off k : Nat) (ht : P.underlying t = some (.struct fs)) (h : DataW.trod enc P w base spare held fuel t cs = some x) (hf : (fs[i]?).map (fun f => (f.type, f.offset)) = some (ty, off)) (hc : P.cellsOf ty = k) :
    ∃ n y, DataW.trod enc P w base spare held n ty ((cs.drop off).take k) = some y := by
  obtain ⟨f, hf1, hf2⟩ := Option.map_eq_some_iff.1 hf
  simp only [Prod.mk.injEq] at hf2
  obtain ⟨rfl, rfl⟩ := hf2
  subst hc
  exact open_fld ht h i hf1
theorem open_len {fs : Array Field} (ht : P.underlying t = some (.struct fs)) (h : DataW.trod enc P w base spare held fuel t cs = some x) : cs.length = P.cellsOf t := by
  obtain ⟨xs, n, _, _, hl, _, _⟩ := DataW.trod_struct ht h
  exact hl
end
/-- whole numbers -/
def intE (k : IntKind) : Enc Int := { enc := fun x => [.int k x], sz := 1, len := fun _ => rfl, one := fun x v hv => by simp at hv; subst hv; rfl, pos := by decide }
def boolE : Enc Bool := { enc := fun x => [.bool x], sz := 1, len := fun _ => rfl, one := fun x v hv => by simp at hv; subst hv; rfl, pos := by decide }
def strE : Enc ByteArray := { enc := fun x => [.string x], sz := 1, len := fun _ => rfl, one := fun x v hv => by simp at hv; subst hv; rfl, pos := by decide }
theorem wf64 {n : Int} (h : (Lit.int .i64 n).wf = true) : -9223372036854775808 ≤ n ∧ n ≤ 9223372036854775807 := by
  have := (Lit.wf_int_iff .i64 n).1 h
  simpa [IntKind.min, IntKind.max, IntKind.signed, IntKind.bits] using this
section
variable {H : Type} {enc : TypeId × Value → H} {P : Program} {w : World} {base : Nat} {spare : Nat → Bool} {held : Bool} {t : TypeId} {fuel : Nat} {cs : List Value} {x : DataW H × List MemPlace}
theorem open_i64 (ht : P.underlying t = some (.int .i64)) (h : DataW.trod enc P w base spare held fuel t cs = some x) : ∃ y : Int, cs = (intE .i64).enc y ∧ (-9223372036854775808 ≤ y ∧ y ≤ 9223372036854775807) := by
  obtain ⟨n, rfl, _, hw⟩ := DataW.trod_int ht h
  exact ⟨n, rfl, wf64 hw⟩
theorem open_bl (ht : P.underlying t = some .bool) (h : DataW.trod enc P w base spare held fuel t cs = some x) : ∃ y : Bool, cs = boolE.enc y ∧ True := by
  obtain ⟨n, rfl, _⟩ := DataW.trod_bool ht h
  exact ⟨n, rfl, trivial⟩
theorem open_sr (ht : P.underlying t = some .string) (h : DataW.trod enc P w base spare held fuel t cs = some x) : ∃ y : ByteArray, cs = strE.enc y ∧ y.size ≤ maxLen := by
  obtain ⟨n, rfl, _, hs⟩ := DataW.trod_string ht h
  exact ⟨n, rfl, hs⟩
end
end Go.Sx

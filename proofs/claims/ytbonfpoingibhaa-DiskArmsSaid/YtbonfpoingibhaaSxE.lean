/- Sx, part E: rows: slices that are owned, slices that are read. -/
import Derived.Test.YtbonfpoingibhaaSxF
set_option linter.unusedVariables false
set_option linter.unusedSimpArgs false
namespace Go.Sx
open Go.RowKit

/-- How an element lies in cells. -/
structure Enc (τ : Type) where
  enc : τ → List Value
  sz : Nat
  len : ∀ x, (enc x).length = sz
  one : ∀ x, ∀ v ∈ enc x, v.oneCell' = true
  pos : 0 < sz
variable {τ : Type}
def Enc.all (E : Enc τ) (l : List τ) : List Value := l.flatMap E.enc
theorem Enc.all_nil (E : Enc τ) : E.all [] = [] := rfl
theorem Enc.all_cons (E : Enc τ) (x : τ) (l : List τ) : E.all (x :: l) = E.enc x ++ E.all l := by simp [Enc.all]
theorem Enc.all_append (E : Enc τ) (l m : List τ) : E.all (l ++ m) = E.all l ++ E.all m := by simp [Enc.all]
theorem Enc.all_length (E : Enc τ) (l : List τ) : (E.all l).length = l.length * E.sz := by
  induction l with
  | nil => simp [Enc.all]
  | cons x l ih => rw [E.all_cons, List.length_append, ih, E.len, List.length_cons, Nat.succ_mul]; omega
theorem Enc.all_one (E : Enc τ) (l : List τ) : ∀ v ∈ E.all l, v.oneCell' = true := by
  intro v hv
  obtain ⟨x, _, hx⟩ := List.mem_flatMap.1 hv
  exact E.one x v hx
theorem Enc.all_get (E : Enc τ) {l : List τ} {i j : Nat} {x : τ} {v : Value} (hi : l[i]? = some x) (hj : (E.enc x)[j]? = some v) : (E.all l)[i * E.sz + j]? = some v := by
  induction l generalizing i with
  | nil => simp at hi
  | cons y l ih =>
    rw [E.all_cons]
    cases i with
    | zero =>
      simp only [List.getElem?_cons_zero, Option.some.injEq] at hi
      subst hi
      have hlt : j < (E.enc y).length := (List.getElem?_eq_some_iff.1 hj).1
      rw [Nat.zero_mul, Nat.zero_add, List.getElem?_append_left hlt]
      exact hj
    | succ i =>
      have := ih (by simpa using hi)
      rw [List.getElem?_append_right (by rw [E.len, Nat.succ_mul]; omega), E.len, Nat.succ_mul, show i * E.sz + E.sz + j - E.sz = i * E.sz + j by omega]
      exact this
theorem Enc.all_take (E : Enc τ) (l : List τ) (k : Nat) : (E.all l).take (k * E.sz) = E.all (l.take k) := by
  induction l generalizing k with
  | nil => simp [Enc.all]
  | cons x l ih =>
    cases k with
    | zero => simp [Enc.all]
    | succ k =>
      rw [E.all_cons, List.take_succ_cons, E.all_cons, ← ih k, List.take_append, E.len]
      rw [List.take_of_length_le (by rw [E.len, Nat.succ_mul]; omega), show (k + 1) * E.sz - E.sz = k * E.sz by rw [Nat.succ_mul]; omega]
theorem Enc.all_drop (E : Enc τ) (l : List τ) (k : Nat) : (E.all l).drop (k * E.sz) = E.all (l.drop k) := by
  induction l generalizing k with
  | nil => simp [Enc.all]
  | cons x l ih =>
    cases k with
    | zero => simp
    | succ k =>
      rw [E.all_cons, List.drop_succ_cons, ← ih k, List.drop_append, E.len]
      rw [List.drop_of_length_le (by rw [E.len, Nat.succ_mul]; omega), show (k + 1) * E.sz - E.sz = k * E.sz by rw [Nat.succ_mul]; omega]; rfl

/-! ### a row that is owned -/
def rowR (E : Enc τ) (T : TypeId) (A : Option Addr) (cap : Nat) (l : List τ) : Res where
  holds S w := w.ownsRow 0 T E.sz (.slice A l.length cap) l.length (E.all l) ∧ ∀ a, A = some a → S a.block
  lcl S S' w w' h hw hS := by
    refine ⟨?_, fun a ha => hS _ (h.2 a ha)⟩
    obtain ⟨h1, h2⟩ := h.1
    refine ⟨h1, ?_⟩
    rcases h2 with h2 | ⟨g, c, cur, hv, hb, hg, r⟩
    · exact .inl h2
    · have hA : A = some ⟨g, 0, none⟩ := by injection hv
      exact .inr ⟨g, c, cur, hv, hb, (hw g (h.2 _ hA)).trans hg, r⟩

section rows
variable {w0 w w' : World} {Rs Rs' Rt : List Res} {E : Enc τ} {T : TypeId} {A : Option Addr} {cap : Nat} {l : List τ}
/-- What is read. -/
structure Rd (C : World → Prop) (E : Enc τ) (A : Option Addr) (l : List τ) : Prop where
  out : ∀ w, C w → ∀ i x, l[i]? = some x → ∃ ad, A = some ad ∧ ∀ j v, (E.enc x)[j]? = some v → w.cell? (ad.add (i * E.sz + j)) = some v
theorem Rd.addr {C : World → Prop} (h : Rd C E A l) (hw : C w) (hl : 0 < l.length) : ∃ ad, A = some ad := by
  obtain ⟨ad, ha, _⟩ := h.out w hw 0 l[0] (by simp [hl])
  exact ⟨ad, ha⟩
theorem Rd.own (hp : Pick Rs (rowR E T A cap l) Rs') : Rd (Sat w0 Rs) E A l := by
  constructor
  intro w hw i x hi
  obtain ⟨S, ⟨ho, hA⟩, _⟩ := hw.holds hp
  have hlen : 0 < l.length := by have := (List.getElem?_eq_some_iff.1 hi).1; omega
  obtain ⟨g, c, hv, _, _⟩ := ho.form hlen
  have hA' : A = Option.some ⟨g, 0, none⟩ := by injection hv
  subst hA'
  refine ⟨_, rfl, fun j v hj => ?_⟩
  exact ho.cells (g := g) rfl _ v (E.all_get hi hj)
theorem Rd.arg (h : ∀ i x, l[i]? = some x → ∃ ad, A = some ad ∧ ∀ j v, (E.enc x)[j]? = some v → w0.cell? (ad.add (i * E.sz + j)) = some v) : Rd (Sat w0 Rs) E A l := by
  constructor
  intro w hw i x hi
  obtain ⟨ad, ha, hc⟩ := h i x hi
  refine ⟨ad, ha, fun j v hj => ?_⟩
  have := hc j v hj
  exact (hw.1.cell (World.block_lt_of_cell? w0 _ this)).trans this
theorem Rd.box {b : Nat} {cs : List Value} {t : TypeId} (hp : Pick Rs (boxR b cs t) Rs') (hcs : cs = E.all l) : Rd (Sat w0 Rs) E (some ⟨b, 0, none⟩) l := by
  constructor
  intro w hw i x hi
  refine ⟨_, rfl, fun j v hj => ?_⟩
  rw [add_lit]
  exact box_cell hp (by rw [hcs, Nat.zero_add]; exact E.all_get hi hj) w hw
theorem Rd.weak {w0 : World} {Rs Rs' : List Res} (h : Rd (Sat w0 Rs) E A l) (hs : Sub Rs Rs') : Rd (Sat w0 Rs') E A l := ⟨fun w hw => h.out w (hw.sub hs)⟩
theorem Rd.empty {C : World → Prop} : Rd C E A ([] : List τ) := ⟨fun w _ i x hi => by simp at hi⟩
theorem Rd.take {C : World → Prop} (h : Rd C E A l) (k : Nat) : Rd C E A (l.take k) := by
  constructor
  intro w hw i x hi
  rw [List.getElem?_take] at hi
  split at hi
  · exact h.out w hw i x hi
  · cases hi
theorem Rd.drop {C : World → Prop} (h : Rd C E A l) (k : Nat) : Rd C E (A.map (·.add (k * E.sz))) (l.drop k) := by
  constructor
  intro w hw i x hi
  rw [List.getElem?_drop] at hi
  obtain ⟨ad, ha, hc⟩ := h.out w hw (k + i) x hi
  subst ha
  refine ⟨_, rfl, fun j v hj => ?_⟩
  rw [add_add, show k * E.sz + (i * E.sz + j) = (k + i) * E.sz + j by rw [Nat.add_mul]; omega]
  exact hc j v hj
theorem Rd.dropIf {C : World → Prop} (h : Rd C E A l) {c k : Nat} (hc : l.length ≤ c) : Rd C E (if c = k then A else A.map (·.add (k * E.sz))) (l.drop k) := by
  by_cases hk : c = k
  · have : l.drop k = [] := List.drop_eq_nil_of_le (by omega)
    rw [this]; exact Rd.empty
  · rw [if_neg hk]; exact h.drop k
/-- All cells of what is read. -/
theorem Rd.cells {C : World → Prop} {ad : Addr} (h : Rd C E (some ad) l) (hw : C w) : ∀ j u, (E.all l)[j]? = some u → w.cell? (ad.add j) = some u := by
  intro j u hj
  have hlt : j < l.length * E.sz := by rw [← E.all_length]; exact (List.getElem?_eq_some_iff.1 hj).1
  have hi : j / E.sz < l.length := Nat.div_lt_of_lt_mul (by rw [Nat.mul_comm]; exact hlt)
  have hx : l[j / E.sz]? = Option.some l[j / E.sz] := by simp [hi]
  obtain ⟨ad', ha, hc⟩ := h.out w hw (j / E.sz) _ hx
  cases ha
  have hm : j % E.sz < E.sz := Nat.mod_lt _ E.pos
  have hv : (E.enc l[j / E.sz])[j % E.sz]? = Option.some ((E.enc l[j / E.sz])[j % E.sz]'(by rw [E.len]; exact hm)) := by simp [E.len, hm]
  have h1 := E.all_get hx hv
  have hd : j / E.sz * E.sz + j % E.sz = j := by rw [Nat.mul_comm]; exact Nat.div_add_mod j E.sz
  rw [hd] at h1
  have h2 := hc _ _ hv
  rw [hd] at h2
  rw [h2, ← h1, hj]
/-- What is known of an owned row's slice. -/
theorem Sat.row (h : Sat w0 Rs w) (hp : Pick Rs (rowR E T A cap l) Rs') : l.length ≤ cap ∧ cap ≤ maxLen ∧ (A = none → l.length = 0 ∧ cap = 0) := by
  obtain ⟨S, ⟨ho, _⟩, _⟩ := h.holds hp
  rcases ho.2 with ⟨hv, h0⟩ | ⟨g, c, cur, hv, _, _, h1, h2, _⟩
  · injection hv with h1 h2 h3
    exact ⟨by omega, by omega, fun _ => ⟨h0, h3⟩⟩
  · injection hv with h1' h2' h3'
    subst h3'
    exact ⟨h1, h2, fun hn => by rw [hn] at h1'; cases h1'⟩
theorem Sat.row_none (h : Sat w0 Rs w) : Sat w0 (rowR E T none 0 ([] : List τ) :: Rs) w := by
  refine ⟨h.1, fun _ => False, fun _ h => h.elim, ⟨World.ownsRow_nil w 0 T E.sz, fun a ha => by cases ha⟩, h.2.mono (fun _ _ => rfl) fun k hk => ⟨hk, fun h => h⟩⟩
/-- A block of elements is a row. -/
theorem Sat.row_of_box {b : Nat} {cs : List Value} (h : Sat w0 Rs w) (hcs : cs = E.all l) (hl : l.length ≤ maxLen) (hs : Swap Rs (boxR b cs T) (rowR E T (some ⟨b, 0, none⟩) l.length l) Rs') : Sat w0 Rs' w := by
  obtain ⟨S, hR, hS, hstep⟩ := h.turn hs
  refine hstep S w (Turn.refl _ _) (fun k hk => .inl hk) ⟨⟨E.all_length l, .inr ⟨b, l.length, cs.toArray, rfl, Nat.zero_le _, hR.2, Nat.le_refl _, hl, ?_, ?_⟩⟩, fun a ha => by cases ha; exact hR.1⟩
  · simp [hcs, E.all_length]
  · simp [hcs, ← E.all_length]
end rows

/-! ### append -/
class EL (P : Program) (t : TypeId) (T : outParam TypeId) (E : Enc τ) (bytes : outParam Nat) : Prop where
  sl : P.underlying t = some (.slice T)
  el : ∃ i z, P.info? T = some i ∧ i.zero = some z ∧ i.size = E.sz ∧ i.bytes = bytes ∧ z.cells.size = E.sz ∧ z.cells.toList.all (·.oneCell') = true

theorem turn_of_grown {S : Nat → Prop} {w w' : World} {row : Option Nat} (h : w.grownBy w' row) (hr : ∀ k, row = some k → S k) : Turn S w w' :=
  ⟨h.os, h.tape, h.output, h.size, fun k hk ht => h.block k hk (fun e => ht (hr k e.symm))⟩

section app
variable {P : Program} {w0 w : World} {Rs Rs' : List Res} {E : Enc τ} {t T : TypeId} {A B : Option Addr} {cap m c bytes : Nat} {l l2 : List τ}
theorem run_app (hE : EL P t T E bytes) (hS : Sat w0 Rs w) {ty : TypeId} (hp : Pick Rs (rowR E T A cap l) Rs') (hR : Rd (Sat w0 Rs) E B l2) (hm : l2.length = m) (hb : (l.length + m) * bytes ≤ 140737488355328) (hl : l.length + m ≤ 140737488355328) :
    ∃ A' cap' w', (Builtin.append_ #[t, t] ty #[.slice A l.length cap, .slice B m c]).run P w = .ok (.slice A' (l ++ l2).length cap') w' ∧ ∀ Rs2, Swap Rs (rowR E T A cap l) (rowR E T A' cap' (l ++ l2)) Rs2 → Sat w0 Rs2 w' := by
  obtain ⟨i, z, hi, hz, hsz, hby, hzs, _⟩ := hE.el
  have hlc := hS.row hp
  rcases Nat.eq_zero_or_pos m with h0 | h0
  · subst h0
    obtain rfl : l2 = [] := List.eq_nil_of_length_eq_zero hm
    refine ⟨A, cap, w, ?_, fun Rs2 hs => ?_⟩
    · have hf : (Builtin.firstCells i.size 0 (.slice B 0 c)).run P w = .ok #[] w := by cases B <;> simp [Builtin.firstCells, loadCells, loadCellsFrom]
      cases A <;> simp [Builtin.append_, run_underlying hE.sl, sizeOf, typeInfo, hi, Builtin.lenOf, hf, hlc.1, storeCells]
    · obtain ⟨S, hR', hS', hstep⟩ := hS.turn hs
      exact hstep S w (Turn.refl _ _) (fun k hk => .inl hk) (by rw [List.append_nil]; exact hR')
  · obtain ⟨ad, rfl⟩ := hR.addr hS (by omega)
    obtain ⟨S, ⟨ho, hA⟩, hdom⟩ := hS.holds hp
    obtain ⟨v', w', hr, hown, hg, _, hat⟩ := run_append_own_at (P := P) w 0 t ty T i z E.sz bytes hE.sl hi hz hsz hby hzs E.pos (.slice A l.length cap) l.length (E.all l) ho ad m c (E.all l2) (by rw [E.all_length, hm]) (hR.cells hS) (E.all_one l2)
      (by simp only [maxLen]; omega) hb (Nat.zero_le _)
    obtain ⟨A', cap', rfl⟩ : ∃ A' cap', v' = .slice A' (l ++ l2).length cap' := by
      have e : l.length + m = (l ++ l2).length := by simp [hm]
      rw [e] at hown
      obtain ⟨g, cp, hv, _⟩ := hown.form (by simp; omega)
      exact ⟨_, _, hv⟩
    refine ⟨A', cap', w', hr, fun Rs2 hs => ?_⟩
    obtain ⟨S, hR', hS', hstep⟩ := hS.turn hs
    have e : l.length + m = (l ++ l2).length := by simp [hm]
    rw [e, ← E.all_append] at hown
    refine hstep (fun k => S k ∨ (w.heap.size ≤ k ∧ k < w'.heap.size)) w' (turn_of_grown hg fun k hk => ?_) (fun k hk => hk) ⟨hown, fun a ha => ?_⟩
    · cases A with
      | none => simp [Value.ownBlock] at hk
      | some a => simp [Value.ownBlock] at hk; rw [← hk]; exact hR'.2 a rfl
    · subst ha
      rcases hat with hat | hat
      · left
        cases A with
        | none => simp [Value.ownBlock] at hat
        | some a' => simp [Value.ownBlock] at hat; rw [hat]; exact hR'.2 a' rfl
      · right
        have h1 := (hown.lt a.block rfl).2
        simp [Value.ownBlock] at hat
        exact ⟨by omega, h1⟩
end app
end Go.Sx

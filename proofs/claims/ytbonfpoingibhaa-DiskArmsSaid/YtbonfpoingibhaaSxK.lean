/- Sx, part K: slots that are dead are forgotten, region by region. -/
import Derived.Test.YtbonfpoingibhaaSxJ
set_option linter.unusedVariables false
set_option linter.unusedSimpArgs false
namespace Go.Sx
open Go.RowKit
def argsFrom : Nat → List Value → Env
  | _, [] => fun _ => undef
  | i, v :: l => upd (argsFrom (i + 1) l) i v
theorem argsFrom_get (l : List Value) : ∀ i t, argsFrom i l t = if i ≤ t then l.getD (t - i) undef else undef := by
  induction l with
  | nil => intro i t; simp [argsFrom]
  | cons v l ih =>
    intro i t
    simp only [argsFrom, upd]
    cases hb : Nat.beq t i with
    | true =>
      have := Nat.eq_of_beq_eq_true hb
      subst this
      simp
    | false =>
      have hne : t ≠ i := fun e => by subst e; simp at hb
      simp only [cond_false, ih]
      by_cases h1 : i + 1 ≤ t
      · rw [if_pos h1, if_pos (by omega), show t - i = (t - (i + 1)) + 1 by omega]; simp
      · rw [if_neg h1]
        by_cases h2 : i ≤ t
        · omega
        · rw [if_neg h2]
theorem args_from (l : List Value) : args l = argsFrom 0 l := by
  funext t
  rw [argsFrom_get]
  simp [args]
/-- is slot d wanted -/
def tb (m d : Nat) : Bool := Nat.beq (Nat.land (Nat.shiftRight m d) 1) 1
theorem tb_eq (m d : Nat) : tb m d = m.testBit d := by
  have : (m >>> d) &&& 1 = (m >>> d) % 2 := Nat.and_two_pow_sub_one_eq_mod (m >>> d) 1
  show Nat.beq ((m >>> d) &&& 1) 1 = _
  rw [this, Nat.testBit_eq_decide_div_mod_eq, Nat.shiftRight_eq_div_pow]
  cases h : decide (m / 2 ^ d % 2 = 1) with
  | true => rw [of_decide_eq_true h]; rfl
  | false =>
    have := of_decide_eq_false h
    cases hb : Nat.beq (m / 2 ^ d % 2) 1 with
    | true => exact absurd (Nat.eq_of_beq_eq_true hb) this
    | false => rfl
/-- ρ' : what is kept of ρ, over the slots of the mask m; the rest is σ. -/
inductive Pr (σ : Env) : Nat → Env → Env → Prop
  | nil {m : Nat} {ρ : Env} : Pr σ m ρ σ
  | hit {m d : Nat} {ρ ρ' : Env} {v : Value} : tb m d = true → Pr σ (Nat.xor m (Nat.shiftLeft 1 d)) ρ ρ' → Pr σ m (upd ρ d v) (upd ρ' d v)
  | miss {m d : Nat} {ρ ρ' : Env} {v : Value} : tb m d = false → Pr σ m ρ ρ' → Pr σ m (upd ρ d v) ρ'
  | lv {m t : Nat} {L : List (Nat × Value)} {τ ρ' : Env} {v : Value} : Pr σ m (upd (live L τ) t v) ρ' → Pr σ m (live ((t, v) :: L) τ) ρ'
  | a0 {m : Nat} {l : List Value} {ρ' : Env} : Pr σ m (argsFrom 0 l) ρ' → Pr σ m (args l) ρ'
  | ac {m i : Nat} {l : List Value} {ρ' : Env} {v : Value} : Pr σ m (upd (argsFrom (i + 1) l) i v) ρ' → Pr σ m (argsFrom i (v :: l)) ρ'
abbrev zE : Env := fun _ => undef
theorem Pr.a1 {σ : Env} {m : Nat} {a : Value} {ρ' : Env} (h : Pr σ m (upd zE 0 a) ρ') : Pr σ m (args [a]) ρ' := .a0 (.ac h)
theorem Pr.a2 {σ : Env} {m : Nat} {a b : Value} {ρ' : Env} (h : Pr σ m (upd (upd zE 1 b) 0 a) ρ') : Pr σ m (args [a, b]) ρ' := .a0 (.ac h)
theorem Pr.a3 {σ : Env} {m : Nat} {a b c : Value} {ρ' : Env} (h : Pr σ m (upd (upd (upd zE 2 c) 1 b) 0 a) ρ') : Pr σ m (args [a, b, c]) ρ' := .a0 (.ac h)
theorem Pr.a4 {σ : Env} {m : Nat} {a b c d : Value} {ρ' : Env} (h : Pr σ m (upd (upd (upd (upd zE 3 d) 2 c) 1 b) 0 a) ρ') : Pr σ m (args [a, b, c, d]) ρ' := .a0 (.ac h)
theorem Pr.z {σ ρ : Env} : Pr σ 0 ρ σ := .nil
theorem Pr.sound {σ : Env} {m : Nat} {ρ ρ' : Env} (h : Pr σ m ρ ρ') : (∀ t, m.testBit t = true → ρ t = σ t) → ρ' = σ := by
  induction h with
  | nil => intro _; rfl
  | @hit m d ρ ρ' v hb _ ih =>
    intro hm
    rw [tb_eq] at hb
    have hd : v = σ d := by have := hm d hb; simpa [upd] using this
    have := ih (fun t ht => by
      have hx : (m ^^^ (1 <<< d)).testBit t = true := ht
      rw [Nat.testBit_xor] at hx
      by_cases htd : t = d
      · subst htd; simp [hb] at hx
      · have : (1 <<< d).testBit t = false := by
          rw [Nat.one_shiftLeft, Nat.testBit_two_pow]; simp; omega
        rw [this] at hx
        have := hm t (by simpa using hx)
        have hne : Nat.beq t d = false := by
          cases hq : Nat.beq t d with
          | true => exact absurd (Nat.eq_of_beq_eq_true hq) htd
          | false => rfl
        simpa [upd, hne] using this)
    rw [this, hd]
    funext t
    simp only [upd]
    cases hq : Nat.beq t d with
    | true => rw [Nat.eq_of_beq_eq_true hq]; rfl
    | false => rfl
  | @miss m d ρ ρ' v hb _ ih =>
    intro hm
    rw [tb_eq] at hb
    refine ih fun t ht => ?_
    have hne : Nat.beq t d = false := by
      cases hq : Nat.beq t d with
      | true => rw [Nat.eq_of_beq_eq_true hq, hb] at ht; cases ht
      | false => rfl
    have := hm t ht
    simpa [upd, hne] using this
  | lv _ ih => intro hm; exact ih hm
  | a0 _ ih => intro hm; exact ih (by rw [← args_from]; exact hm)
  | ac _ ih => intro hm; exact ih hm
/-- append onto an empty row -/
theorem w_app0 {τ : Type} {P : Program} {l : List Oper} {k : Kt} {rest : List Oper} {n : Nat} {ρ : Env} {w w0 : World} {Rs Rt : List Res} {ty : TypeId} {pos : String} {after : Array Edge} {g : Option (Nat × Bool)} {x y : Operand} {t T : TypeId} {d : Nat} {E : Enc τ} {A B : Option Addr} {cap m c bytes : Nat} {ys : List τ} {R2 : Option Addr → Nat → List Res} (hg : wn l n ρ g = true) (hS : Sat w0 Rs w) (hE : EL P t T E bytes) (hx : ev n ρ x = .slice A 0 cap) (hy : ev n ρ y = .slice B m c) (hp : Pick Rs (rowR E T A cap ([] : List τ)) Rt) (hR : Rd (Sat w0 Rs) E B ys) (hm : ys.length = m)
    (hb : m * bytes ≤ 140737488355328) (hl : m ≤ 140737488355328) (hs : ∀ A' cap', Swap Rs (rowR E T A cap ([] : List τ)) (rowR E T A' cap' ys) (R2 A' cap')) (h : ∀ A' cap' w', Sat w0 (R2 A' cap') w' → WL P l k rest n (upd ρ d (.slice A' ys.length cap')) w') :
    WL P l k (⟨some d, .call { callee := .builtin .append, args := #[x, y], argTypes := #[t, t] }, ty, pos, after, g⟩ :: rest) n ρ w :=
  w_app (xs := []) hg hS hE hx hy hp hR hm (by simpa using hb) (by simpa using hl) hs h
def maskAt : List (Nat × Nat) → Nat → Nat
  | [], _ => 0
  | (i, m) :: r, j => bif Nat.beq i j then m else maskAt r j
section
variable {P : Program} {k : Kt} {n : Nat} {ρ ρ' : Env} {w : World}
theorem f_sig {c : Code} (h : ∀ σ, σ = ρ → WC P c k n ρ w) : WC P c k n ρ w := h ρ rfl
theorem f_regP {id m : Nat} {l : List Oper} {σ : Env} (M : List (Nat × Nat)) (hσ : σ = ρ) (hm : maskAt M id = m) (hp : Pr σ m ρ ρ') (h : WL P l k l n ρ' w) (hnd : ndf k.rd l = true := by rfl) : WC P (.region id l.toArray false) k n ρ w := by
  subst hσ
  have := hp.sound (fun _ _ => rfl)
  subst this
  exact f_region h hnd
theorem f_pr {id m : Nat} {l : Array Oper} {b : Bool} {σ : Env} (M : List (Nat × Nat)) (hσ : σ = ρ) (hm : maskAt M id = m) (hp : Pr σ m ρ ρ') (h : WC P (.region id l b) k n ρ' w) : WC P (.region id l b) k n ρ w := by
  subst hσ
  have := hp.sound (fun _ _ => rfl)
  subst this
  exact h
end
end Go.Sx

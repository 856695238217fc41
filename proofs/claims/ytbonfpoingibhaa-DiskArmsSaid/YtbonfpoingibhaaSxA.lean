/- Sx, part A: the frame as a function from slots to values; what an operation yields; the rules of the operations that only compute. -/
import Derived.WalkKit
import Derived.WalkSpells
import Derived.WalkLawsBesides
import Derived.Deep.Quiet
import Derived.OrdersHeld
import Derived.Deep.AppendLies
import Derived.Lib.Hide
import Derived.Sort.LoopGhostIn
import Derived.RangeFuncLeaves
import Derived.TacticsIn
import Derived.OrdersIn
set_option linter.unusedVariables false
set_option linter.unusedSimpArgs false
namespace Go.Sx
open Go.RowKit

/-! ### the frame -/
abbrev Env := Nat → Value
def upd (ρ : Env) (d : Nat) (v : Value) : Env := fun t => bif Nat.beq t d then v else ρ t
def mkA (n : Nat) (ρ : Env) : Act := ⟨Array.ofFn (fun i : Fin n => ρ i), []⟩
def ev (n : Nat) (ρ : Env) : Operand → Value
  | .tmp t => bif Nat.ble (t + 1) n then ρ t else undef
  | .const v => v
  | .global g => .pointer (some ⟨g, 0, none⟩)
  | .func f => .func (.func f) #[] #[]

theorem mkA_get (n : Nat) (ρ : Env) (t : Nat) : (mkA n ρ).tmps[t]? = if t < n then some (ρ t) else none := by
  simp only [mkA, Array.getElem?_ofFn]
  split <;> simp_all
theorem mkA_eval (n : Nat) (ρ : Env) (x : Operand) : (mkA n ρ).eval x = ev n ρ x := by
  cases x with
  | tmp t =>
    simp only [Act.eval, ev, Array.getD_eq_getD_getElem?, mkA_get]
    by_cases h : t < n
    · have : Nat.ble (t + 1) n = true := by rw [Nat.ble_eq]; exact h
      simp [h, this]
    · have : Nat.ble (t + 1) n = false := by
        cases hb : Nat.ble (t + 1) n with
        | true => rw [Nat.ble_eq] at hb; exact absurd hb h
        | false => rfl
      simp [h, this]
  | _ => rfl
theorem mkA_evalF (n : Nat) (ρ : Env) : (mkA n ρ).eval = ev n ρ := funext (mkA_eval n ρ)
theorem mkA_put (n : Nat) (ρ : Env) (d : Nat) (v : Value) : (mkA n ρ).put (some d) v = mkA n (upd ρ d v) := by
  simp only [Act.put, mkA]
  congr 1
  apply Array.ext
  · simp
  · intro i h1 h2
    simp only [Array.getElem_setIfInBounds, Array.getElem_ofFn, upd]
    by_cases h : d = i
    · subst h; simp
    · rw [Array.getElem_setIfInBounds_ne (by simpa using h2) h]
      have : Nat.beq i d = false := by
        cases hb : Nat.beq i d with
        | true => exact absurd (Nat.eq_of_beq_eq_true hb).symm h
        | false => rfl
      simp [h, this]
theorem mkA_put_none (n : Nat) (ρ : Env) (v : Value) : (mkA n ρ).put none v = mkA n ρ := rfl
theorem mkA_congr {n : Nat} {ρ σ : Env} (h : ∀ t, t < n → ρ t = σ t) : mkA n ρ = mkA n σ := by
  simp only [mkA]
  congr 1
  apply Array.ext
  · simp
  · intro i h1 h2
    simp only [Array.getElem_ofFn]
    exact h i (by simpa using h1)

/-- The frame of a call at its start. -/
def args (l : List Value) : Env := fun t => l.getD t undef
theorem mkA_args (l : List Value) (n : Nat) (h : l.length ≤ n) : (⟨l.toArray ++ Array.replicate (n - l.toArray.size) undef, []⟩ : Act) = mkA n (args l) := by
  simp only [mkA]
  congr 1
  apply Array.ext
  · simp; omega
  · intro i h1 h2
    simp only [Array.getElem_ofFn, args]
    rw [Array.getElem_append]
    split
    · rename_i hi
      have hi' : i < l.length := by simpa using hi
      simp [List.getD_eq_getElem?_getD, hi']
    · rename_i hi
      have hi' : ¬ i < l.length := by simpa using hi
      simp [List.getD_eq_getElem?_getD, hi']

/-- Live slots, the rest forgotten. -/
def live (L : List (Nat × Value)) (ρ : Env) : Env := L.foldr (fun p ρ => upd ρ p.1 p.2) ρ
def agrees (L : List (Nat × Value)) (ρ : Env) : Prop := ∀ p ∈ L, ρ p.1 = p.2
theorem live_of_agrees {L : List (Nat × Value)} {ρ : Env} (h : agrees L ρ) : live L ρ = ρ := by
  induction L with
  | nil => rfl
  | cons p L ih =>
    have ih' := ih (fun q hq => h q (List.mem_cons_of_mem _ hq))
    funext t
    show upd (live L ρ) p.1 p.2 t = ρ t
    rw [ih']
    simp only [upd]
    cases hb : Nat.beq t p.1 with
    | true => simp [Nat.eq_of_beq_eq_true hb, h p (List.mem_cons_self ..)]
    | false => rfl
theorem agrees_nil (ρ : Env) : agrees [] ρ := fun _ h => by cases h
theorem agrees_cons {t : Nat} {v : Value} {L : List (Nat × Value)} {ρ : Env} (h : ρ t = v) (hL : agrees L ρ) : agrees ((t, v) :: L) ρ := by
  intro p hp
  cases hp with
  | head => exact h
  | tail _ hp => exact hL p hp

/-! ### guards -/
def wn (l : List Oper) (n : Nat) (ρ : Env) (g : Option (Nat × Bool)) : Bool :=
  match g with
  | none => true
  | some (j, want) =>
    match l[j]? with
    | some o =>
      match o.dst with
      | some d => match ev n ρ (.tmp d) with
        | .bool b => bif want then b else !b
        | _ => false
      | none => false
    | none => false
theorem wanted_eq (l : List Oper) (n : Nat) (ρ : Env) (o : Oper) : Region.wanted o (yielded l.toArray (mkA n ρ).tmps) = wn l n ρ o.guard := by
  unfold Region.wanted wn
  split
  · rename_i h; simp [h]
  · rename_i j want h
    simp only [h, yielded, List.getElem?_toArray]
    cases hj : l[j]? with
    | none => cases want <;> simp
    | some oj =>
      cases hd : oj.dst with
      | none => cases want <;> simp [hd]
      | some d =>
        simp only [hd, Option.bind_some]
        have h1 := mkA_eval n ρ (.tmp d)
        simp only [Act.eval, Array.getD_eq_getD_getElem?] at h1
        rw [mkA_get] at h1 ⊢
        by_cases hdn : d < n
        · simp only [hdn, if_true, Option.getD_some] at h1 ⊢
          rw [← h1]
          cases hv : ρ d <;> simp
          case bool b => cases b <;> cases want <;> rfl
        · simp only [hdn, if_false, Option.getD_none] at h1 ⊢
          rw [← h1]
          cases want <;> simp [undef]

/-! ### what an operation yields in every world of a class -/
structure Yld (P : Program) (C : World → Prop) (n : Nat) (ρ : Env) (o : Oper) (v : Value) : Prop where
  out : ∀ w, C w → (execOp (ev n ρ) o).run P w = .ok (.value v) w

/-- The fence of a walk: of an activation of a function's own, or of a round's. -/
def fnc (r : Option Nat) : Fence := { Fence.wide with round := r }
theorem fnc_none : fnc none = Fence.wide := rfl
theorem fnc_some (l : Nat) : fnc (some l) = Fence.wide.inRound l := rfl
/-- What stands behind: as data, so that nothing has to be unfolded. -/
inductive Kt where
  | base (r : Option Nat) (Q : Exit → Act → World → Prop) (h : ∀ c d v a w, Q (.panic c) (a.put d v) w → Q (.panic c) a w) (h' : ∀ a w, ¬ Q .outgrown a w)
  | thn (c : Code) (k : Kt)
  | blk (id : Nat) (k : Kt)
  | lp (J : Act → World → Prop) (k : Kt)
/-- In which round. -/
def Kt.rd : Kt → Option Nat
  | .base r _ _ _ => r
  | .thn _ k => k.rd
  | .blk _ k => k.rd
  | .lp _ k => k.rd
def Kt.den (P : Program) : Kt → Exit → Act → World → Prop
  | .base _ Q _ _ => Q
  | .thn c k => Exit.then (c.wpIn (fnc k.rd) 0 P (k.den P)) (k.den P)
  | .blk id k => Exit.inBlock id (k.den P)
  | .lp J k => Exit.then J (k.den P)
theorem Kt.panic (P : Program) : ∀ (k : Kt) c d v a w, k.den P (.panic c) (a.put d v) w → k.den P (.panic c) a w
  | .base _ _ h _, c, d, v, a, w, hq => h c d v a w hq
  | .thn _ k, c, d, v, a, w, hq => Kt.panic P k c d v a w hq
  | .blk _ k, c, d, v, a, w, hq => Kt.panic P k c d v a w hq
  | .lp _ k, c, d, v, a, w, hq => Kt.panic P k c d v a w hq
theorem Kt.grown (P : Program) : ∀ (k : Kt), ¬ LetsOut (k.den P)
  | .base _ _ _ h, ⟨a, w, hq⟩ => h a w hq
  | .thn _ k, ⟨a, w, hq⟩ => Kt.grown P k ⟨a, w, hq⟩
  | .blk _ k, ⟨a, w, hq⟩ => Kt.grown P k ⟨a, w, hq⟩
  | .lp _ k, ⟨a, w, hq⟩ => Kt.grown P k ⟨a, w, hq⟩

/-! ### from the unfenced law of an operation to the fenced one -/
def ndO (o : Oper) : Bool := match o.op with | .defer _ => false | _ => true
def ndf (r : Option Nat) (l : List Oper) : Bool := r.isNone || l.all ndO
theorem semAt_nd {r : Option Nat} {o : Oper} (h : (r.isNone || ndO o) = true) (ρ : Operand → Value) : Oper.semAt r ρ o = execOp ρ o := by
  cases r with
  | none => rfl
  | some l => exact Oper.semAt_some l ρ o fun c hc => by simp [ndO, hc] at h
theorem op_in {P : Program} {r : Option Nat} {o : Oper} {a : Act} {w : World} {K : Act → World → Prop} {Q : Exit → Act → World → Prop} (hd : (r.isNone || ndO o) = true) (h : o.wp P a w K Q) : o.wpIn (fnc r) 0 P a w K Q := by
  refine ⟨fun _ _ => trivial, ?_⟩
  unfold Oper.wp at h
  rw [show (fnc r).round = r from rfl, semAt_nd hd]
  generalize (execOp a.eval o).run P w = x at h
  cases x with
  | ok x w' =>
    cases x <;> simp only [Oper.upon] at h <;> simp only [Oper.uponIn]
    case value => exact h
    case skip => exact h
    case defer => exact h
    case enter =>
      exact ⟨fun h => (by cases h), (callsIn_wide (n := 0 - 1)).2 h⟩
    case row => exact ⟨fun h => (by cases h), fun c cs _ => let ⟨v, w'', hr, hs⟩ := h c cs; ⟨v, w'', hr, stepsIn_wide.2 hs⟩⟩
    all_goals exact h
  | halt x w' => cases x <;> simp only [Oper.upon] at h <;> simp only [Oper.uponIn] <;> exact h
theorem list_in {P : Program} {r : Option Nat} {ops : Array Oper} {Q : Exit → Act → World → Prop} (hQ : ¬ LetsOut Q) : ∀ {l : List Oper} {a : Act} {w : World}, ndf r l = true → wpList P ops Q l a w → wpListIn (fnc r) 0 P ops Q l a w
  | [], _, _, _, h => h
  | o :: rest, a, w, hd, h => by
    have h1 : (r.isNone || ndO o) = true := by
      unfold ndf at hd; cases r with
      | none => rfl
      | some l => simp only [Option.isNone_some, Bool.false_or, List.all_cons, Bool.and_eq_true] at hd ⊢; exact hd.1
    have h2 : ndf r rest = true := by
      unfold ndf at hd ⊢; cases r with
      | none => rfl
      | some l => simp only [Option.isNone_some, Bool.false_or, List.all_cons, Bool.and_eq_true] at hd ⊢; exact hd.2
    unfold wpList at h
    unfold wpListIn
    split
    · rename_i hw
      rw [if_pos hw] at h
      rcases h with h | h
      · exact Oper.wpIn_mono (fun a w h => list_in hQ h2 h) (op_in h1 h)
      · exact absurd h.2 hQ
    · rename_i hw
      rw [if_neg hw] at h
      exact ⟨fun _ _ => trivial, list_in hQ h2 h⟩
theorem any_in {P : Program} {r : Option Nat} {l : List Oper} {Q : Exit → Act → World → Prop} (hQ : ¬ LetsOut Q) (hd : ndf r l = true) : ∀ (fuel : Nat) {listed : Array Bool} {a : Act} {w : World}, wpAny P .any l.toArray Q fuel listed a w → wpAnyIn (fnc r) 0 P .any l.toArray Q fuel listed a w
  | 0, _, _, _, h => h
  | fuel + 1, listed, a, w, h => by
    refine ⟨h.1, fun i hi => ?_⟩
    have h := h.2 i hi
    unfold wpOp at h
    unfold wpOpIn
    cases ho : l.toArray[i]? with
    | none => simp only [ho] at h ⊢; exact any_in hQ hd fuel h
    | some o =>
      simp only [ho] at h ⊢
      have h1 : (r.isNone || ndO o) = true := by
        unfold ndf at hd; cases r with
        | none => rfl
        | some m =>
          simp only [Option.isNone_some, Bool.false_or] at hd ⊢
          have hm : o ∈ l := by rw [List.getElem?_toArray] at ho; exact List.mem_of_getElem? ho
          exact List.all_eq_true.1 hd o hm
      split
      · rename_i hw
        rw [if_pos hw] at h
        rcases h with h | h
        · exact Oper.wpIn_mono (fun a w h => any_in hQ hd fuel h) (op_in h1 h)
        · exact absurd h.2 hQ
      · rename_i hw
        rw [if_neg hw] at h
        exact ⟨fun _ _ => trivial, any_in hQ hd fuel h⟩
/-- Operations left. -/
structure WL (P : Program) (l : List Oper) (k : Kt) (rest : List Oper) (n : Nat) (ρ : Env) (w : World) : Prop where
  out : wpList P l.toArray (k.den P) rest (mkA n ρ) w
/-- Code left. -/
structure WC (P : Program) (c : Code) (k : Kt) (n : Nat) (ρ : Env) (w : World) : Prop where
  out : c.wpIn (fnc k.rd) 0 P (k.den P) (mkA n ρ) w
/-- An exit. -/
structure WQ (P : Program) (k : Kt) (e : Exit) (n : Nat) (ρ : Env) (w : World) : Prop where
  out : k.den P e (mkA n ρ) w

section list
variable {P : Program} {l : List Oper} {k : Kt} {rest : List Oper} {n : Nat} {ρ : Env} {w : World} {C : World → Prop}

/-- An operation that yields. -/
theorem wy {d : Nat} {op : Op} {ty : TypeId} {pos : String} {after : Array Edge} {g : Option (Nat × Bool)} {v : Value}
    (hg : wn l n ρ g = true) (hC : C w) (hy : Yld P C n ρ ⟨some d, op, ty, pos, after, g⟩ v) (h : WL P l k rest n (upd ρ d v) w) :
    WL P l k (⟨some d, op, ty, pos, after, g⟩ :: rest) n ρ w := by
  constructor
  unfold wpList
  rw [wanted_eq]
  simp only [hg, if_true]
  refine .inl ?_
  unfold Oper.wp
  rw [mkA_evalF, hy.out w hC]
  show wpList P l.toArray (k.den P) rest ((mkA n ρ).put (some d) v) w
  rw [mkA_put]
  exact h.out
/-- An operation that is not wanted. -/
theorem ws {d : Nat} {op : Op} {ty : TypeId} {pos : String} {after : Array Edge} {g : Option (Nat × Bool)}
    (hg : wn l n ρ g = false) (h : WL P l k rest n (upd ρ d undef) w) :
    WL P l k (⟨some d, op, ty, pos, after, g⟩ :: rest) n ρ w := by
  constructor
  unfold wpList
  rw [wanted_eq]
  simp only [hg, Bool.false_eq_true, if_false]
  show wpList P l.toArray (k.den P) rest ((mkA n ρ).put (some d) undef) w
  rw [mkA_put]
  exact h.out
theorem ws0 {op : Op} {ty : TypeId} {pos : String} {after : Array Edge} {g : Option (Nat × Bool)}
    (hg : wn l n ρ g = false) (h : WL P l k rest n ρ w) :
    WL P l k (⟨none, op, ty, pos, after, g⟩ :: rest) n ρ w := by
  constructor
  unfold wpList
  rw [wanted_eq]
  simp only [hg, Bool.false_eq_true, if_false]
  exact h.out
theorem wnil (h : WQ P k .normal n ρ w) : WL P l k [] n ρ w := ⟨h.out⟩
/-- A bool that is not known: both ways, each with the bool written out. -/
theorem bool_cases (t : Nat) (b : Bool) (hb : ρ t = .bool b) (h1 : b = true → WL P l k rest n (upd ρ t (.bool true)) w) (h0 : b = false → WL P l k rest n (upd ρ t (.bool false)) w) :
    WL P l k rest n ρ w := by
  have e : ∀ c, b = c → mkA n ρ = mkA n (upd ρ t (.bool c)) := by
    rintro c rfl
    refine mkA_congr fun s _ => ?_
    simp only [upd]
    cases hq : Nat.beq s t with
    | true => rw [Nat.eq_of_beq_eq_true hq, hb]; rfl
    | false => rfl
  constructor
  cases hbb : b with
  | true => rw [e true hbb]; exact (h1 hbb).out
  | false => rw [e false hbb]; exact (h0 hbb).out
end list

/-! ### the operations that only compute -/
section ops
variable {P : Program} {C : World → Prop} {n : Nat} {ρ : Env} {dst : Option Nat} {ty : TypeId} {pos : String} {after : Array Edge} {g : Option (Nat × Bool)}

theorem y_move {x : Operand} {v : Value} (hx : ev n ρ x = v) : Yld P C n ρ ⟨dst, .move x, ty, pos, after, g⟩ v := by
  refine ⟨fun w _ => ?_⟩; simp [execOp, hx]
theorem y_assign {x : Operand} {v : Value} (hx : ev n ρ x = v) : Yld P C n ρ ⟨dst, .assign x, ty, pos, after, g⟩ v := by
  refine ⟨fun w _ => ?_⟩; simp [execOp, hx]
theorem y_pickt {c a b : Operand} {v : Value} (hc : ev n ρ c = .bool true) (ha : ev n ρ a = v) : Yld P C n ρ ⟨dst, .pick c a b, ty, pos, after, g⟩ v := by
  refine ⟨fun w _ => ?_⟩; simp [execOp, hc, ha, asBool]
theorem y_pickf {c a b : Operand} {v : Value} (hc : ev n ρ c = .bool false) (hb : ev n ρ b = v) : Yld P C n ρ ⟨dst, .pick c a b, ty, pos, after, g⟩ v := by
  refine ⟨fun w _ => ?_⟩; simp [execOp, hc, hb, asBool]
theorem y_nil {x : Operand} {p : Addr} (hx : ev n ρ x = .pointer (some p)) : Yld P C n ρ ⟨dst, .nilCheck x, ty, pos, after, g⟩ (.pointer (some p)) := by
  refine ⟨fun w _ => ?_⟩; simp [execOp, hx]
theorem y_not {x : Operand} {xt : TypeId} {b : Bool} (hx : ev n ρ x = .bool b) : Yld P C n ρ ⟨dst, .unOp .not xt x, ty, pos, after, g⟩ (.bool (!b)) := by
  refine ⟨fun w _ => ?_⟩; simp [execOp, hx, Op.unary]
theorem y_extract {x : Operand} {i : Nat} {vs : Array Value} {v : Value} (hx : ev n ρ x = .tuple vs) (hv : vs[i]? = some v) : Yld P C n ρ ⟨dst, .extract x i, ty, pos, after, g⟩ v := by
  refine ⟨fun w _ => ?_⟩; simp [execOp, hx, Instr.extract, hv]
end ops

end Go.Sx

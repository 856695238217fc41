/- Sx, part N: a range over a function value: the statement, its rounds, the call of yield. -/
import Derived.Test.YtbonfpoingibhaaSxM
import Derived.RangeFuncRecord
set_option linter.unusedVariables false
set_option linter.unusedSimpArgs false
namespace Go.Sx
open Go.RowKit

/-! ### a block that is no cells -/
def objR (b : Nat) (o : Obj) : Res where
  holds S w := S b ∧ w.heap[b]? = some o
  lcl S S' w w' h hw hS := ⟨hS b h.1, (hw b h.1).trans h.2⟩
section obj
variable {w0 w w' : World} {Rs Rs' T : List Res} {b : Nat} {o o' : Obj}
theorem Sat.obj (h : Sat w0 Rs w) (hp : Pick Rs (objR b o) Rs') : w.heap[b]? = some o := by
  obtain ⟨S, hR, _⟩ := h.holds hp
  exact hR.2
theorem Sat.allocO (h : Sat w0 Rs w) (o : Obj) : Sat w0 (objR w.heap.size o :: Rs) (w.alloc o) :=
  h.fresh [objR w.heap.size o] _ ⟨rfl, rfl, rfl, by simp, fun k hk _ => Below.heap_alloc w _ k hk⟩ ⟨fun k => k = w.heap.size, fun k hk => by subst hk; simp, ⟨rfl, by simpa using heap_alloc_new w _⟩, trivial⟩
theorem Sat.putObj (h : Sat w0 Rs w) (hs : Swap Rs (objR b o) (objR b o') Rs') : Sat w0 Rs' (w.putObj b o') := by
  obtain ⟨S, hR, hS, hstep⟩ := h.turn hs
  refine hstep S _ ⟨rfl, rfl, rfl, by simp, fun k _ hk => World.putObj_heap_other (fun e => hk (by rw [e]; exact hR.1))⟩ (fun k hk => .inl hk) ⟨hR.1, ?_⟩
  exact World.putObj_heap_same (hS b hR.1).2
end obj

/-! ### lists of operations, cut and shifted -/
section
variable {F : Fence} {m : Nat} {P : Program} {ops : Array Oper} {Q Q' : Exit → Act → World → Prop}
theorem upon_glue {K K' : Act → World → Prop} {o : Oper} {sh : Act → Act} {a : Act} {x : Result Next} (hput : ∀ a d v, sh (a.put d v) = (sh a).put d v) (hdef : ∀ a d, sh { a with defers := d :: a.defers } = { sh a with defers := d :: (sh a).defers })
    (hK : ∀ a w, K a w → K' (sh a) w) (hp : ∀ c a w, ¬ Q (.panic c) a w) (hL : ¬ LetsOut Q) (h : o.uponIn F m P a K Q x) : o.uponIn F m P (sh a) K' Q' x := by
  cases x with
  | ok x w' =>
    cases x <;> simp only [Oper.uponIn] at h ⊢
    case value => rw [← hput]; exact hK _ _ h
    case skip => rw [← hput]; exact hK _ _ h
    case defer => rw [← hdef, ← hput]; exact hK _ _ h
    case enter =>
      refine ⟨h.1, CallsIn.mono h.2 fun e w'' he => ?_⟩
      cases e with
      | returned v => show K' ((sh a).put o.dst v) w''; rw [← hput]; exact hK _ _ he
      | panicked c => exact (hp _ _ _ he).elim
      | outgrown => exact (hL he).elim
    case row => exact ⟨h.1, RowsIn.mono h.2 fun v w'' he => by rw [← hput]; exact hK _ _ he⟩
    case round =>
      refine ⟨h.1, RoundIn.mono h.2 fun e w'' he => ?_⟩
      cases e with
      | returned v => show K' ((sh a).put o.dst v) w''; rw [← hput]; exact hK _ _ he
      | panicked c => exact (hp _ _ _ he).elim
      | outgrown => exact (hL he).elim
  | halt x w' => cases x <;> simp only [Oper.uponIn] at h ⊢; exact (hp _ _ _ h).elim
theorem list_glue {sh : Act → Act} (hput : ∀ a d v, sh (a.put d v) = (sh a).put d v) (hdef : ∀ a d, sh { a with defers := d :: a.defers } = { sh a with defers := d :: (sh a).defers }) (heval : ∀ a, (sh a).eval = a.eval) (htmps : ∀ a, (sh a).tmps = a.tmps)
    (hp : ∀ c a w, ¬ Q (.panic c) a w) (hL : ¬ LetsOut Q) (rest : List Oper) (hN : ∀ a w, Q .normal a w → wpListIn F m P ops Q' rest (sh a) w) :
    ∀ (l : List Oper) (a : Act) (w : World), wpListIn F m P ops Q l a w → wpListIn F m P ops Q' (l ++ rest) (sh a) w
  | [], a, w, h => hN a w h
  | o :: l, a, w, h => by
    rw [List.cons_append]
    unfold wpListIn at h ⊢
    rw [htmps]
    split
    · rename_i hw
      rw [if_pos hw] at h
      refine ⟨fun f hf => h.1 f (by rw [heval] at hf; exact hf), ?_⟩
      rw [heval]
      exact upon_glue hput hdef (fun a w h => list_glue hput hdef heval htmps hp hL rest hN l a w h) hp hL h.2
    · rename_i hw
      rw [if_neg hw] at h
      refine ⟨fun f hf => h.1 f (by rw [heval] at hf; exact hf), ?_⟩
      have := list_glue hput hdef heval htmps hp hL rest hN l _ w h.2
      rw [hput] at this
      exact this
end
def noK (r : Option Nat) : Kt := .base r (fun _ _ _ => False) (fun _ _ _ _ _ h => h) (fun _ _ h => h)

section
variable {P : Program} {k : Kt} {n : Nat} {ρ : Env} {w w0 : World} {Rs Rs1 Rs2 : List Res}

/-! ### a call of yield -/
/-- What is reached where the list is cut. -/
def CutJ (P : Program) (k : Kt) (l rest : List Oper) : Act → World → Prop := wpListIn (fnc k.rd) 0 P l.toArray (k.den P) rest
/-- A region walked up to its j-th operation. -/
theorem f_cutR {id m : Nat} {l : List Oper} {σ ρ' : Env} (M : List (Nat × Nat)) (j : Nat) (hσ : σ = ρ) (h : WL P l (.lp (CutJ P k l (l.drop j)) (noK k.rd)) (l.take j) n ρ' w) (hm : maskAt M id = m := by first | ((conv => (lhs; whnf)); done) | fail) (hp : Pr σ m ρ ρ' := by repeat (first | exact Pr.z | ((with_reducible apply Pr.hit); rfl) | ((with_reducible apply Pr.miss); rfl) | with_reducible apply Pr.lv | with_reducible apply Pr.a1 | with_reducible apply Pr.a2 | with_reducible apply Pr.a3 | with_reducible apply Pr.a4 | with_reducible apply Pr.a0 | with_reducible apply Pr.ac | exact Pr.nil)) (hnd : ndf k.rd l = true := by rfl) : WC P (.region id l.toArray false) k n ρ w := by
  refine f_pr M hσ hm hp ⟨wpIn_region_lit ?_⟩
  have h1 := list_in (r := k.rd) (Kt.grown P (.lp (CutJ P k l (l.drop j)) (noK k.rd))) (l := l.take j) (by
    unfold ndf at hnd ⊢
    cases hk : k.rd with
    | none => rfl
    | some x =>
      rw [hk] at hnd
      simp only [Option.isNone_some, Bool.false_or, List.all_eq_true] at hnd ⊢
      exact fun x hx => hnd x (List.mem_of_mem_take hx)) h.out
  have := list_glue (sh := fun a => a) (fun _ _ _ => rfl) (fun _ _ => rfl) (fun _ => rfl) (fun _ => rfl) (fun _ _ _ h => h) (Kt.grown P (.lp (CutJ P k l (l.drop j)) (noK k.rd))) (l.drop j) (Q' := k.den P) (fun a w h => h) (l.take j) _ w h1
  rwa [List.take_append_drop] at this
/-- The function of a loop is called: a round is done. -/
theorem x_yield {l rest : List Oper} {d i : Nat} {ty : TypeId} {pos : String} {after : Array Edge} {ts : Array TypeId} {c x : Operand} {v u : Value} {r : Loop} {k0 : Kt} {I : List Res → Prop} (hS : Sat w0 (objR i (.loop r) :: Rs) w) (hc : ev n ρ c = .func (.yield i) #[] #[]) (hx : ev n ρ x = v)
    (p : Nat) (hps : r.params = #[p]) (hround : ∀ w, Sat w0 (objR i (.loop r) :: Rs) w → RoundIn Fence.wide 0 P i r.fn (r.tmps.setIfInBounds p v) r.assign r.body w (fun e w' => e = .returned u ∧ ∃ Rs', Sat w0 (objR i (.loop r) :: Rs') w' ∧ I Rs'))
    (h : ∀ Rs' w', I Rs' → Sat w0 (objR i (.loop r) :: Rs') w' → WL P l k rest n (upd ρ d u) w') (hnd : ndf k.rd rest = true := by rfl) :
    WQ P (.lp (CutJ P k l (⟨some d, .call { callee := .value c, args := #[x], argTypes := ts }, ty, pos, after, none⟩ :: rest)) k0) .normal n ρ w := by
  refine ⟨(show CutJ P k l _ (mkA n ρ) w from ?_)⟩
  unfold CutJ wpListIn
  simp only [Region.wanted, if_true]
  refine ⟨fun _ _ => trivial, ?_⟩
  rw [semAt_nd (by cases k.rd <;> rfl), mkA_evalF]
  have hr : (execOp (ev n ρ) ⟨some d, .call { callee := .value c, args := #[x], argTypes := ts }, ty, pos, after, none⟩).run P w = .ok (.round i r.fn (r.tmps.setIfInBounds p v) r.assign r.body) w := by
    have := run_yield (P := P) (args := #[v]) (hS.obj .hd) (by rw [hps]; rfl)
    rw [hps] at this
    simp [execOp, resolve, hc, hx, Deferred.ofValue, invoke, this]
  rw [hr]
  refine ⟨fun h => (by cases h), RoundIn.mono (hround w hS) fun e w' ⟨he, Rs', hs, hI⟩ => ?_⟩
  subst he
  show wpListIn _ _ _ _ _ rest ((mkA n ρ).put (some d) u) w'
  rw [mkA_put]
  exact list_in (k.grown P) hnd (h Rs' w' hI hs).out

/-! ### a round -/
def busy (r : Loop) : Loop := { r with state := .busy }
def kRound (w0 : World) (i : Nat) (r : Loop) (I : List Res → Prop) : Kt := .base (some i) (fun e _ w => e = .normal ∧ ∃ Rs', Sat w0 (objR i (.loop (busy r)) :: Rs') w ∧ I Rs') (fun _ _ _ _ _ h => by cases h.1) (fun _ _ h => by cases h.1)
def kAssign (P : Program) (w0 : World) (i : Nat) (r : Loop) (I Rs : List Res → Prop) (n : Nat) (body : Code) : Kt := .base (some i) (fun e a w => e = .normal ∧ ∃ ρ' Rs', a = mkA n ρ' ∧ Sat w0 (objR i (.loop r) :: Rs') w ∧ ∀ w', Sat w0 (objR i (.loop (busy r)) :: Rs') w' → WC P body (kRound w0 i r I) n ρ' w') (fun _ _ _ _ _ h => by cases h.1) (fun _ _ h => by cases h.1)
theorem f_round {i f p : Nat} {r : Loop} {v : Value} {I : List Res → Prop} {assign body : Code} (h0 : r.state = .ready) (h1 : r.pending = none)
    (h : WC P assign (kAssign P w0 i r I (fun _ => True) n body) n (upd ρ p v) w) :
    RoundIn Fence.wide 0 P i f ((mkA n ρ).tmps.setIfInBounds p v) assign body w (fun e w' => e = .returned (.bool true) ∧ ∃ Rs', Sat w0 (objR i (.loop r) :: Rs') w' ∧ I Rs') := by
  refine roundIn_of_wpIn trivial ?_
  have e : ({ tmps := (mkA n ρ).tmps.setIfInBounds p v, defers := [] } : Act) = mkA n (upd ρ p v) := by rw [← mkA_put]; rfl
  rw [e]
  refine wpIn_mono h.out fun e a₁ w₁ hq => ?_
  obtain ⟨rfl, ρ', Rs', rfl, hS, hb⟩ := hq
  refine ⟨_, run_beginRound (hS.obj .hd) h0, ?_⟩
  refine wpIn_mono (hb _ (hS.putObj .hd)).out fun e a₂ w₂ hq => ?_
  obtain ⟨rfl, Rs'', hS2, hI⟩ := hq
  refine ⟨_, _, run_endRound none (hS2.obj .hd), rfl, Rs'', ?_, hI⟩
  have : ({ busy r with state := if (none : Option Code).isNone then .ready else .done, pending := none } : Loop) = r := by
    cases r; simp only at h0 h1; subst h0; subst h1; rfl
  rw [this]
  exact hS2.putObj .hd
theorem x_begin {i : Nat} {r : Loop} {I X : List Res → Prop} {body : Code} (hS : Sat w0 (objR i (.loop r) :: Rs) w) (h : ∀ w', Sat w0 (objR i (.loop (busy r)) :: Rs) w' → WC P body (kRound w0 i r I) n ρ w') : WQ P (kAssign P w0 i r I X n body) .normal n ρ w := ⟨⟨rfl, _, _, rfl, hS, h⟩⟩
theorem x_round {i : Nat} {r : Loop} {I : List Res → Prop} (hS : Sat w0 (objR i (.loop (busy r)) :: Rs) w) (h : I Rs) : WQ P (kRound w0 i r I) .normal n ρ w := ⟨⟨rfl, _, hS, h⟩⟩

/-! ### the statement -/
def FinM (P : Program) (fn : Func) (w0 : World) (post : Value → List Res → Prop) : Exit → Act → World → Prop
  | .ret, a, w => LeavesInM Fence.wide 0 P fn a.tmps (fun e w' => ∃ v Rs', e = .returned v ∧ post v Rs' ∧ Sat w0 Rs' w') a.defers .returning w
  | _, _, _ => False
def kFinM (P : Program) (fn : Func) (w0 : World) (post : Value → List Res → Prop) : Kt := .base none (FinM P fn w0 post) (fun _ _ _ _ _ h => h) (fun _ _ h => h)
theorem ct_enterM {f : FuncId} {vs : List Value} {post : Value → List Res → Prop} {fn : Func} {c : Code} (n : Nat) (hf : P.funcs[f]? = some fn) (hb : fn.body = some c) (hn : fn.ntmps = n) (hl : vs.length ≤ n)
    (h : ∀ w, Sat w0 Rs w → WC P c (kFinM P fn w0 post) n (args vs) w) : Ct P f vs w0 Rs post := by
  refine ⟨fun w hS => callsIn_wide (n := 0) |>.1 (callsIn_of_wp_marks hf hb trivial ?_)⟩
  rw [hn, mkA_args vs n hl]
  refine wpIn_mono (h w hS).out fun e a w hq => ?_
  cases e <;> first | exact hq | exact hq.elim
/-- What is asked at the end of the region behind the loop. -/
def EndJ (w0 : World) (post : Value → List Res → Prop) (t d : Nat) : Act → World → Prop := fun a w => a.defers = [] ∧ ∃ Rs', Sat w0 (objR d (.deferred (some [])) :: Rs') w ∧ post (a.eval (.tmp t)) Rs'
theorem x_end {t d : Nat} {v : Value} {post : Value → List Res → Prop} {k0 : Kt} (hS : Sat w0 (objR d (.deferred (some [])) :: Rs) w) (hv : ev n ρ (.tmp t) = v) (hp : post v Rs) : WQ P (.lp (EndJ w0 post t d) k0) .normal n ρ w := by
  refine ⟨⟨rfl, Rs, hS, ?_⟩⟩
  rw [mkA_eval, hv]; exact hp
def recL (fn : FuncId) (n : Nat) (ρ : Env) (p : Nat) (assign body : Code) (d : Nat) : Loop := { state := .ready, pending := none, fn := fn, tmps := (mkA n ρ).tmps, params := #[p], assign := assign, body := body, defers := d }
/-- The statement, a region behind it, and the return. -/
theorem f_range {g : Operand} {p t id id0 : Nat} {assign body : Code} {lst : List Oper} {fn : Func} {post : Value → List Res → Prop} {Mid : List Res → Prop} {f : FuncId} {cs : List Value} [hf : FC P f] (hres : fn.results = #[.tmp t]) (hS : Sat w0 Rs w) (hg : ev n ρ g = .func (.func f) #[] cs.toArray)
    (hct : ∀ (r : Loop) l d, r.state = .ready → r.pending = none → r.params = #[p] → r.tmps = (mkA n ρ).tmps → r.assign = assign → r.body = body → Ct P f ([.func (.yield l) #[] #[]] ++ cs) w0 (objR l (.loop r) :: objR d (.deferred (some [])) :: Rs) (fun _ Rs' => ∃ Rs'', Rs' = objR l (.loop r) :: objR d (.deferred (some [])) :: Rs'' ∧ Mid Rs''))
    (hnext : ∀ d Rs'' w', Mid Rs'' → Sat w0 (objR d (.deferred (some [])) :: Rs'') w' → WL P lst (.lp (EndJ w0 post t d) (noK none)) lst n ρ w') :
    WC P (.rangeFunc g #[p] assign body) (.blk id0 (.thn (.seq (.region id lst.toArray false) .ret) (kFinM P fn w0 post))) n ρ w := by
  refine ⟨wpIn_rangeFunc fun fn' _ => ?_⟩
  obtain ⟨W, hW⟩ : ∃ W, W = (w.alloc (.deferred (some []))).alloc (.loop { state := .ready, pending := none, fn := fn', tmps := (mkA n ρ).tmps, params := #[p], assign := assign, body := body, defers := w.heap.size }) := ⟨_, rfl⟩
  refine ⟨w.heap.size + 1, [{ target := .collected w.heap.size, args := #[] }], W, { target := .fn (.func f) cs.toArray, args := #[.func (.yield (w.heap.size + 1)) #[] #[]] }, W, f, ([Value.func (.yield (w.heap.size + 1)) #[] #[]] ++ cs).toArray, W, by rw [hW]; exact run_enterLoop_outer _ _ _ _ _, ?_, fun _ _ => trivial, ?_, fun h => (by cases h), ?_⟩
  · rw [mkA_evalF]
    have hev : ∀ v, ev n ρ (.const v) = v := fun _ => rfl
    simp [resolve, hg, Deferred.ofValue, hev]
  · obtain ⟨fnc, h1, h2, h3⟩ := hf.fn
    have h2' : ¬ fnc.name = "runtime.NumGoroutine" := by simpa using h2
    have h3' : ¬ fnc.body = none := fun h => by rw [h] at h3; simp at h3
    simp [invoke, callFunc, program, Sem.run, h1, h2', h3']
  · have hS1 := (hS.allocO (.deferred (some []))).allocO (.loop { state := .ready, pending := none, fn := fn', tmps := (mkA n ρ).tmps, params := #[p], assign := assign, body := body, defers := w.heap.size })
    have hsz : (w.alloc (.deferred (some []))).heap.size = w.heap.size + 1 := World.size_alloc ..
    rw [hsz, ← hW] at hS1
    refine (callsIn_wide (n := 0 - 1)).2 (((hct (recL fn' n ρ p assign body w.heap.size) _ _ rfl rfl rfl rfl rfl rfl).out _ hS1).mono fun e w' hR => ?_)
    obtain ⟨v, Rs', rfl, ⟨Rs'', rfl, hm⟩, hs'⟩ := hR
    refine ⟨_, _, run_endLoop (hs'.obj .hd) (by simp [recL]), ?_⟩
    show Code.wpIn (fnc none) 0 P (.seq (.region id lst.toArray false) .ret) (FinM P fn w0 post) _ _
    have hs2 := (hs'.putObj (o' := .loop { recL fn' n ρ p assign body w.heap.size with state := .exhausted }) .hd).drop
    refine wpIn_seq (wpIn_region_lit ?_)
    have h1 := list_in (r := none) (Kt.grown P (.lp (EndJ w0 post t w.heap.size) (noK none))) rfl (hnext _ _ _ hm hs2).out
    have h2 := list_glue (sh := fun a => { a with defers := a.defers ++ [{ target := .collected w.heap.size, args := #[] }] }) (fun a d v => by cases d <;> rfl) (fun _ _ => rfl) (fun _ => rfl) (fun _ => rfl) (fun _ _ _ h => h) (Kt.grown P (.lp (EndJ w0 post t w.heap.size) (noK none))) [] (Q' := Exit.then (Code.ret.wpIn (fnc none) 0 P (FinM P fn w0 post)) (FinM P fn w0 post)) (ops := lst.toArray) (fun a w h => ?_) lst _ _ h1
    · rw [List.append_nil] at h2
      exact h2
    · obtain ⟨hd, Rs3, hs3, hp⟩ := h
      refine wpIn_ret ?_
      show LeavesInM _ _ _ _ _ _ (a.defers ++ _) _ _
      rw [hd]
      refine ⟨by simp, .inl ⟨_, _, rfl, run_takeDeferred (hs3.obj .hd), ?_⟩⟩
      refine ⟨a.eval (.tmp t), ?_, _, _, rfl, hp, (hs3.putObj .hd).drop⟩
      simp [results, hres, Act.eval]
end
end Go.Sx

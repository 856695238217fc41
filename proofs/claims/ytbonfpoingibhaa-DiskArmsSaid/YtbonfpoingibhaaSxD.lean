/- Sx, part D: the rules of memory, of calls, of the flow. -/
import Derived.Test.YtbonfpoingibhaaSxC
set_option linter.unusedVariables false
set_option linter.unusedSimpArgs false
namespace Go.Sx
open Go.RowKit

/-- A row of the type table: is the type an aggregate, how many cells it has. -/
class TL (P : Program) (t : TypeId) (agg : outParam Bool) (sz : outParam Nat) : Prop where
  und : ∃ d, P.underlying t = some d ∧ (match d with | .struct _ | .array _ _ => true | _ => false) = agg
  size : (P.info? t).map (·.size) = some sz
/-- A field: its offset; it is not empty. -/
class FA (P : Program) (t : TypeId) (i : Nat) (off : outParam Nat) : Prop where
  fld : ∃ fs f, P.underlying t = some (.struct fs) ∧ fs[i]? = some f ∧ f.offset = off ∧ ∃ sz, sz ≠ 0 ∧ (P.info? f.type).map (·.size) = some sz
/-- The zero value's cells. -/
class ZV (P : Program) (t : TypeId) (vs : outParam (List Value)) : Prop where
  zero : ∃ z, (P.info? t).map (·.zero) = some (some z) ∧ z.cells = vs.toArray

/-- What a type is. -/
class IsSl (P : Program) (t : TypeId) (e : outParam TypeId) : Prop where
  out : P.underlying t = some (.slice e)
class IsPtr (P : Program) (t : TypeId) (e : outParam TypeId) : Prop where
  out : P.underlying t = some (.pointer e)
class IsMap (P : Program) (t : TypeId) (k e : outParam TypeId) : Prop where
  out : P.underlying t = some (.map k e)
class IsStr (P : Program) (t : TypeId) : Prop where
  out : P.underlying t = some .string
class IsBool (P : Program) (t : TypeId) : Prop where
  out : P.underlying t = some .bool
class IsInt (P : Program) (t : TypeId) (k : outParam IntKind) : Prop where
  out : P.underlying t = some (.int k)
theorem TL.isAgg {P : Program} {t : TypeId} {agg : Bool} {sz : Nat} (h : TL P t agg sz) (w : World) : (isAgg t).run P w = .ok agg w := by
  obtain ⟨⟨d, hd, ha⟩, _⟩ := h
  unfold Go.isAgg
  subst ha
  cases d <;> simp [run_underlying hd]
theorem TL.sizeOf {P : Program} {t : TypeId} {agg : Bool} {sz : Nat} (h : TL P t agg sz) (w : World) : (sizeOf t).run P w = .ok sz w := by
  obtain ⟨i, hi, he⟩ := Option.map_eq_some_iff.1 h.size
  simp [Go.sizeOf, typeInfo, hi, he]
theorem ZV.run {P : Program} {t : TypeId} {vs : List Value} (h : ZV P t vs) (w : World) : ∃ z, (zeroValue t).run P w = .ok z w ∧ z.cells = vs.toArray := by
  obtain ⟨z, hz, hc⟩ := h.zero
  obtain ⟨i, hi, he⟩ := Option.map_eq_some_iff.1 hz
  exact ⟨z, by simp [zeroValue, typeInfo, hi, he], hc⟩

section ops
variable {P : Program} {C : World → Prop} {n : Nat} {ρ : Env} {dst : Option Nat} {ty : TypeId} {pos : String} {after : Array Edge} {g : Option (Nat × Bool)} {x y : Operand} {t : TypeId}

theorem y_load1 (hT : TL P t false 1) {a : Addr} {v : Value} (hx : ev n ρ x = .pointer (some a)) (hc : ∀ w, C w → w.cell? a = some v) : Yld P C n ρ ⟨dst, .load t x, ty, pos, after, g⟩ v := by
  refine ⟨fun w hw => ?_⟩
  simp [execOp, hx, Instr.loadAt, Instr.sureAddr, loadVar, hT.isAgg, load, Sem.run, hc w hw]
theorem y_loadA {sz : Nat} (hT : TL P t true sz) {a : Addr} {vs : List Value} (hx : ev n ρ x = .pointer (some a)) (hl : vs.length = sz) (hc : ∀ w, C w → ∀ j v, vs[j]? = some v → w.cell? (a.add j) = some v) : Yld P C n ρ ⟨dst, .load t x, ty, pos, after, g⟩ (.agg vs.toArray) := by
  refine ⟨fun w hw => ?_⟩
  have h1 := run_loadCells_list (P := P) w a vs (hc w hw)
  rw [hl] at h1
  simp [execOp, hx, Instr.loadAt, Instr.sureAddr, loadVar, hT.isAgg, hT.sizeOf, h1]
/-- a field of a block -/
theorem y_field0 {i off b : Nat} (hF : FA P t i off) (hx : ev n ρ x = .pointer (some ⟨b, 0, none⟩)) : Yld P C n ρ ⟨dst, .fieldAddr t x i, ty, pos, after, g⟩ (.pointer (some ⟨b, off, none⟩)) := by
  refine ⟨fun w _ => ?_⟩
  obtain ⟨fs, f, hu, hf, ho, sz, hsz, hs⟩ := hF.fld
  obtain ⟨ti, hi, he⟩ := Option.map_eq_some_iff.1 hs
  simp [execOp, hx, Instr.fieldAt, run_underlying hu, hf, Instr.sureAddr, fieldPlace, sizeOf, typeInfo, hi, he, hsz, ho, add_lit]
/-- a field of an element -/
theorem y_fieldE {i off k : Nat} {ad : Addr} (hF : FA P t i off) (hx : ev n ρ x = .pointer (some (ad.add k))) : Yld P C n ρ ⟨dst, .fieldAddr t x i, ty, pos, after, g⟩ (.pointer (some (ad.add (k + off)))) := by
  refine ⟨fun w _ => ?_⟩
  obtain ⟨fs, f, hu, hf, ho, sz, hsz, hs⟩ := hF.fld
  obtain ⟨ti, hi, he⟩ := Option.map_eq_some_iff.1 hs
  simp [execOp, hx, Instr.fieldAt, run_underlying hu, hf, Instr.sureAddr, fieldPlace, sizeOf, typeInfo, hi, he, hsz, ho, add_add]
theorem y_indexS {e : TypeId} {agg : Bool} {sz m c : Nat} {ad : Addr} {k : IntKind} {i : Int} (hu : P.underlying t = some (.slice e)) (hT : TL P e agg sz) (hx : ev n ρ x = .slice (some ad) m c) (hy : ev n ρ y = .int k i) (h0 : 0 ≤ i) (h1 : i < m) :
    Yld P C n ρ ⟨dst, .indexAddr t x y, ty, pos, after, g⟩ (.pointer (some (ad.add (i.toNat * sz)))) := by
  refine ⟨fun w _ => ?_⟩
  simp [execOp, hx, hy, Instr.indexAt, asIntOf, run_underlying hu, h0, h1, hT.sizeOf]
theorem y_len {tt e : TypeId} {p : Option Addr} {m c : Nat} (ht : P.underlying tt = some (.slice e)) (hx : ev n ρ x = .slice p m c) : Yld P C n ρ ⟨dst, .call { callee := .builtin .len, args := #[x], argTypes := #[tt] }, ty, pos, after, g⟩ (.int .i64 m) := by
  refine ⟨fun w _ => ?_⟩
  simp [execOp, resolve, invoke, builtin, hx, Builtin.len_, run_underlying ht, goInt]
theorem y_lens {tt : TypeId} {s : ByteArray} (ht : P.underlying tt = some .string) (hx : ev n ρ x = .string s) : Yld P C n ρ ⟨dst, .call { callee := .builtin .len, args := #[x], argTypes := #[tt] }, ty, pos, after, g⟩ (.int .i64 s.size) := by
  refine ⟨fun w _ => ?_⟩
  simp [execOp, resolve, invoke, builtin, hx, Builtin.len_, run_underlying ht, goInt]
end ops

section list
variable {P : Program} {l : List Oper} {k : Kt} {rest : List Oper} {n : Nat} {ρ : Env} {w w0 : World} {Rs Rs' : List Res}
variable {op : Op} {ty : TypeId} {pos : String} {after : Array Edge} {g : Option (Nat × Bool)} {x y : Operand} {t : TypeId}

/-- An operation that comes to a value in another world. -/
theorem wv {d : Nat} {v : Value} {w' : World} (hg : wn l n ρ g = true) (hr : (execOp (ev n ρ) ⟨some d, op, ty, pos, after, g⟩).run P w = .ok (.value v) w') (h : WL P l k rest n (upd ρ d v) w') :
    WL P l k (⟨some d, op, ty, pos, after, g⟩ :: rest) n ρ w := by
  constructor
  unfold wpList
  rw [wanted_eq]
  simp only [hg, if_true]
  refine .inl ?_
  unfold Oper.wp
  rw [mkA_evalF, hr]
  show wpList P l.toArray (k.den P) rest ((mkA n ρ).put (some d) v) w'
  rw [mkA_put]
  exact h.out
theorem wk {w' : World} (hg : wn l n ρ g = true) (hr : (execOp (ev n ρ) ⟨none, op, ty, pos, after, g⟩).run P w = .ok .skip w') (h : WL P l k rest n ρ w') :
    WL P l k (⟨none, op, ty, pos, after, g⟩ :: rest) n ρ w := by
  constructor
  unfold wpList
  rw [wanted_eq]
  simp only [hg, if_true]
  refine .inl ?_
  unfold Oper.wp
  rw [mkA_evalF, hr]
  exact h.out

theorem w_alloc {d : Nat} {z : List Value} (hg : wn l n ρ g = true) (hS : Sat w0 Rs w) (hZ : ZV P t z) (h : ∀ b w', Sat w0 (boxR b z t :: Rs) w' → WL P l k rest n (upd ρ d (.pointer (some ⟨b, 0, none⟩))) w') :
    WL P l k (⟨some d, .alloc t, ty, pos, after, g⟩ :: rest) n ρ w := by
  obtain ⟨zv, hz, hc⟩ := hZ.run w
  refine wv hg (v := .pointer (some ⟨w.heap.size, 0, none⟩)) (w' := w.alloc (.cells z.toArray t)) ?_ (h _ _ (hS.alloc z t))
  simp [execOp, Instr.alloc, hz, newVar, newRow, newObj, Sem.run, hc]
theorem w_box {d : Nat} {v : Value} {z : List Value} (hg : wn l n ρ g = true) (hS : Sat w0 Rs w) (hx : ev n ρ x = v) (hz : v.cells = z.toArray) (h : ∀ b w', Sat w0 (boxR b z t :: Rs) w' → WL P l k rest n (upd ρ d (.pointer (some ⟨b, 0, none⟩))) w') :
    WL P l k (⟨some d, .box t x, ty, pos, after, g⟩ :: rest) n ρ w := by
  refine wv hg (v := .pointer (some ⟨w.heap.size, 0, none⟩)) (w' := w.alloc (.cells z.toArray t)) ?_ (h _ _ (hS.alloc z t))
  simp [execOp, Instr.box, newVar, newRow, newObj, Sem.run, hx, hz]
theorem w_store1 {b j : Nat} {cs : List Value} {T : TypeId} {v : Value} {agg : Bool} (hg : wn l n ρ g = true) (hS : Sat w0 Rs w) (hT : TL P t agg 1) (hx : ev n ρ x = .pointer (some ⟨b, j, none⟩)) (hy : ev n ρ y = v) (hv : v.cells = #[v]) (h1 : v.oneCell' = true)
    (hs : Swap Rs (boxR b cs T) (boxR b (cs.set j v) T) Rs') (hj : j < cs.length) (h : ∀ w', Sat w0 Rs' w' → WL P l k rest n ρ w') :
    WL P l k (⟨none, .store t x y, ty, pos, after, g⟩ :: rest) n ρ w := by
  obtain ⟨Rt, hp, _⟩ := hs.picks
  have hb := hS.box hp
  refine wk hg (w' := w.setCell ⟨b, j, none⟩ v) ?_ (h _ (hS.setCell hs))
  have hc : w.cell? ⟨b, j, none⟩ = some cs[j] := box_cell hp (by simp [hj]) w hS
  have hf : w.frozen? ⟨b, j, none⟩ = false := by simp [World.frozen?, hb]
  have hst : (store ⟨b, j, none⟩ v).run P w = .ok () (w.setCell ⟨b, j, none⟩ v) := by
    cases v <;> simp [Value.oneCell'] at h1 <;> simp [store, Sem.run, hc, hf]
  simp [execOp, hx, hy, Instr.storeAt, Instr.sureAddr, storeVar, hT.sizeOf, hv, storeCells, add_zero, hst]
theorem storeCells_box (P : Program) (b : Nat) (T : TypeId) : ∀ (vs pre cs : List Value) (w : World), w.heap[b]? = some (.cells (pre ++ cs).toArray T (0, 0)) → vs.length = cs.length → (∀ v ∈ vs, v.oneCell' = true) →
    ∃ w', (storeCells ⟨b, 0, none⟩ vs pre.length).run P w = .ok () w' ∧ w'.heap[b]? = some (.cells (pre ++ vs).toArray T (0, 0)) ∧ w'.os = w.os ∧ w'.tape = w.tape ∧ w'.output = w.output ∧ w'.heap.size = w.heap.size ∧ ∀ k, k ≠ b → w'.heap[k]? = w.heap[k]? := by
  intro vs
  induction vs with
  | nil =>
    intro pre cs w hb hl _
    obtain rfl : cs = [] := List.eq_nil_of_length_eq_zero (by simpa using hl.symm)
    exact ⟨w, by simp [storeCells], hb, rfl, rfl, rfl, rfl, fun _ _ => rfl⟩
  | cons v vs ih =>
    intro pre cs w hb hl h1
    cases cs with
    | nil => simp at hl
    | cons c cs =>
      have hc : w.cell? ⟨b, pre.length, none⟩ = some c := by simp [World.cell?, hb]
      have hf : w.frozen? ⟨b, pre.length, none⟩ = false := by simp [World.frozen?, hb]
      have hst : (store ⟨b, pre.length, none⟩ v).run P w = .ok () (w.setCell ⟨b, pre.length, none⟩ v) := by
        have := h1 v (by simp)
        cases v <;> simp [Value.oneCell'] at this <;> simp [store, Sem.run, hc, hf]
      have hb' : (w.setCell ⟨b, pre.length, none⟩ v).heap[b]? = some (.cells ((pre ++ [v]) ++ cs).toArray T (0, 0)) := by
        simp [World.setCell, Array.getElem?_modify, hb]
      obtain ⟨w', hr, h2, h3, h4, h5, h6, h7⟩ := ih (pre ++ [v]) cs _ hb' (by simpa using hl) (fun u hu => h1 u (by simp [hu]))
      refine ⟨w', ?_, by simpa using h2, h3, h4, h5, by rw [h6]; simp [World.setCell], fun k hk => (h7 k hk).trans (Below.heap_setCell _ _ _ _ hk)⟩
      simp only [storeCells, add_lit, Nat.zero_add, Sem.run_bind, hst, Result.andThen_ok]
      simpa using hr
theorem w_storeA {b : Nat} {cs vs : List Value} {T : TypeId} {sz : Nat} {agg : Bool} (hg : wn l n ρ g = true) (hS : Sat w0 Rs w) (hT : TL P t agg sz) (hx : ev n ρ x = .pointer (some ⟨b, 0, none⟩)) (hy : ev n ρ y = .agg vs.toArray) (h1 : vs.all (·.oneCell') = true)
    (hs : Swap Rs (boxR b cs T) (boxR b vs T) Rs') (hl : vs.length = sz) (hl' : cs.length = sz) (h : ∀ w', Sat w0 Rs' w' → WL P l k rest n ρ w') :
    WL P l k (⟨none, .store t x y, ty, pos, after, g⟩ :: rest) n ρ w := by
  obtain ⟨S, hR, hS', hstep⟩ := hS.turn hs
  obtain ⟨w', hr, h2, h3, h4, h5, h6, h7⟩ := storeCells_box P b T vs [] cs w (by simpa using hR.2) (hl.trans hl'.symm) (by simpa using h1)
  refine wk hg (w' := w') ?_ (h _ (hstep S w' ⟨h3, h4, h5, by omega, fun k _ hk => h7 k (fun e => hk (by rw [e]; exact hR.1))⟩ (fun k hk => .inl hk) ⟨hR.1, by simpa using h2⟩))
  simp at hr
  simp [execOp, hx, hy, Instr.storeAt, Instr.sureAddr, storeVar, hT.sizeOf, Value.cells, hl, hr]
end list

/-! ### calls -/
/-- A contract: from a world that holds Rs the call returns, and post tells what, and what the memory then holds. -/
structure Ct (P : Program) (f : FuncId) (vs : List Value) (w0 : World) (Rs : List Res) (post : Value → List Res → Prop) : Prop where
  out : ∀ w, Sat w0 Rs w → Calls P f vs.toArray w (fun e w' => ∃ v Rs', e = .returned v ∧ post v Rs' ∧ Sat w0 Rs' w')
/-- A function that is called by its body. -/
class FC (P : Program) (f : FuncId) : Prop where
  fn : ∃ fn, P.funcs[f]? = some fn ∧ (fn.name == "runtime.NumGoroutine") = false ∧ fn.body.isNone = false

section call
variable {P : Program} {l : List Oper} {k : Kt} {rest : List Oper} {n : Nat} {ρ : Env} {w w0 : World} {Rs Rs1 : List Res}
variable {ty : TypeId} {pos : String} {after : Array Edge} {g : Option (Nat × Bool)} {f : FuncId} {xs : List Operand} {ts : Array TypeId} {vs : List Value} {post : Value → List Res → Prop}
theorem run_call (hf : FC P f) (ha : xs.map (ev n ρ) = vs) (w : World) {dst : Option Nat} : (execOp (ev n ρ) ⟨dst, .call { callee := .value (.func f), args := xs.toArray, argTypes := ts }, ty, pos, after, g⟩).run P w = .ok (.enter f vs.toArray) w := by
  obtain ⟨fn, h1, h2, h3⟩ := hf.fn
  subst ha
  have h2' : ¬ fn.name = "runtime.NumGoroutine" := by simpa using h2
  have h3' : ¬ fn.body = none := fun h => by rw [h] at h3; simp at h3
  simp [execOp, resolve, ev, Deferred.ofValue, invoke, callFunc, program, Sem.run, h1, h2', h3']
theorem w_call {d : Nat} (hg : wn l n ρ g = true) (hS : Sat w0 Rs w) (hf : FC P f) (ha : xs.map (ev n ρ) = vs) (hct : Ct P f vs w0 Rs1 post) (hsub : Sub Rs1 Rs)
    (h : ∀ v Rs' w', post v Rs' → Sat w0 Rs' w' → WL P l k rest n (upd ρ d v) w') :
    WL P l k (⟨some d, .call { callee := .value (.func f), args := xs.toArray, argTypes := ts }, ty, pos, after, g⟩ :: rest) n ρ w := by
  constructor
  unfold wpList
  rw [wanted_eq]
  simp only [hg, if_true]
  refine .inl ?_
  unfold Oper.wp
  rw [mkA_evalF, run_call hf ha]
  refine (hct.out w (hS.sub hsub)).mono fun e w' hR => ?_
  obtain ⟨v, Rs', rfl, hp, hs'⟩ := hR
  show wpList P l.toArray (k.den P) rest ((mkA n ρ).put (some d) v) w'
  rw [mkA_put]
  exact (h v Rs' w' hp hs').out
theorem w_callS {d : Nat} (hg : wn l n ρ g = true) (hS : Sat w0 Rs w) (hf : FC P f) (ha : xs.map (ev n ρ) = vs) (hct : Ct P f vs w0 Rs post)
    (h : ∀ v Rs' w', post v Rs' → Sat w0 Rs' w' → WL P l k rest n (upd ρ d v) w') :
    WL P l k (⟨some d, .call { callee := .value (.func f), args := xs.toArray, argTypes := ts }, ty, pos, after, g⟩ :: rest) n ρ w := w_call hg hS hf ha hct .refl h
theorem w_call0 (hg : wn l n ρ g = true) (hS : Sat w0 Rs w) (hf : FC P f) (ha : xs.map (ev n ρ) = vs) (hct : Ct P f vs w0 Rs1 post) (hsub : Sub Rs1 Rs)
    (h : ∀ v Rs' w', post v Rs' → Sat w0 Rs' w' → WL P l k rest n ρ w') :
    WL P l k (⟨none, .call { callee := .value (.func f), args := xs.toArray, argTypes := ts }, ty, pos, after, g⟩ :: rest) n ρ w := by
  constructor
  unfold wpList
  rw [wanted_eq]
  simp only [hg, if_true]
  refine .inl ?_
  unfold Oper.wp
  rw [mkA_evalF, run_call hf ha]
  refine (hct.out w (hS.sub hsub)).mono fun e w' hR => ?_
  obtain ⟨v, Rs', rfl, hp, hs'⟩ := hR
  exact (h v Rs' w' hp hs').out
end call

/-! ### guards that are not known: decided once, and struck -/
section guards
variable {P : Program} {l : List Oper} {k : Kt} {rest : List Oper} {n : Nat} {ρ : Env} {w : World}
variable {op : Op} {ty : TypeId} {pos : String} {after : Array Edge} {j d e : Nat} {want b : Bool}
theorem wn_of (hd : (l[j]?).bind (·.dst) = some d) (hn : Nat.ble (d + 1) n = true) (hb : ρ d = .bool b) : wn l n ρ (some (j, want)) = (bif want then b else !b) := by
  cases hj : l[j]? with
  | none => rw [hj] at hd; cases hd
  | some o =>
    rw [hj] at hd
    have hd' : o.dst = some d := hd
    simp only [wn, hj, hd', ev, hn, cond_true, hb]
theorem go_none {g : Option (Nat × Bool)} (hg : wn l n ρ g = true) (h : WL P l k (⟨some e, op, ty, pos, after, none⟩ :: rest) n ρ w) : WL P l k (⟨some e, op, ty, pos, after, g⟩ :: rest) n ρ w := by
  have h := h.out
  constructor
  unfold wpList at h ⊢
  rw [wanted_eq] at h ⊢
  rw [if_pos (show wn l n ρ none = true from rfl)] at h
  rw [if_pos hg]
  exact h
theorem upd_self (hb : ρ d = .bool b) : upd ρ d (.bool b) = ρ := by
  funext t
  simp only [upd]
  cases hq : Nat.beq t d with
  | true => rw [Nat.eq_of_beq_eq_true hq, hb]; rfl
  | false => rfl
/-- The guard asks for true. -/
theorem wgt (hd : (l[j]?).bind (·.dst) = some d) (hn : Nat.ble (d + 1) n = true) (hb : ρ d = .bool b)
    (h1 : b = true → WL P l k (⟨some e, op, ty, pos, after, none⟩ :: rest) n (upd ρ d (.bool true)) w) (h0 : b = false → WL P l k rest n (upd (upd ρ d (.bool false)) e undef) w) :
    WL P l k (⟨some e, op, ty, pos, after, some (j, true)⟩ :: rest) n ρ w := by
  cases b with
  | true => have := h1 rfl; rw [upd_self hb] at this; exact go_none (by rw [wn_of hd hn hb]; rfl) this
  | false => have := h0 rfl; rw [upd_self hb] at this; exact ws (by rw [wn_of hd hn hb]; rfl) this
theorem wgf (hd : (l[j]?).bind (·.dst) = some d) (hn : Nat.ble (d + 1) n = true) (hb : ρ d = .bool b)
    (h1 : b = true → WL P l k rest n (upd (upd ρ d (.bool true)) e undef) w) (h0 : b = false → WL P l k (⟨some e, op, ty, pos, after, none⟩ :: rest) n (upd ρ d (.bool false)) w) :
    WL P l k (⟨some e, op, ty, pos, after, some (j, false)⟩ :: rest) n ρ w := by
  cases b with
  | true => have := h1 rfl; rw [upd_self hb] at this; exact ws (by rw [wn_of hd hn hb]; rfl) this
  | false => have := h0 rfl; rw [upd_self hb] at this; exact go_none (by rw [wn_of hd hn hb]; rfl) this
variable {p : Prop} [Decidable p]
theorem wgtd (hd : (l[j]?).bind (·.dst) = some d) (hn : Nat.ble (d + 1) n = true) (hb : ρ d = .bool (decide p))
    (h1 : p → WL P l k (⟨some e, op, ty, pos, after, none⟩ :: rest) n (upd ρ d (.bool true)) w) (h0 : ¬ p → WL P l k rest n (upd (upd ρ d (.bool false)) e undef) w) :
    WL P l k (⟨some e, op, ty, pos, after, some (j, true)⟩ :: rest) n ρ w := wgt hd hn hb (fun h => h1 (of_decide_eq_true h)) (fun h => h0 (of_decide_eq_false h))
theorem wgfd (hd : (l[j]?).bind (·.dst) = some d) (hn : Nat.ble (d + 1) n = true) (hb : ρ d = .bool (decide p))
    (h1 : p → WL P l k rest n (upd (upd ρ d (.bool true)) e undef) w) (h0 : ¬ p → WL P l k (⟨some e, op, ty, pos, after, none⟩ :: rest) n (upd ρ d (.bool false)) w) :
    WL P l k (⟨some e, op, ty, pos, after, some (j, false)⟩ :: rest) n ρ w := wgf hd hn hb (fun h => h1 (of_decide_eq_true h)) (fun h => h0 (of_decide_eq_false h))
theorem nd_t {q : Prop} [Decidable q] (h : (!decide q) = true) : ¬ q := by intro hq; rw [decide_eq_true hq] at h; cases h
theorem nd_f {q : Prop} [Decidable q] (h : (!decide q) = false) : q := by cases hd : decide q with | true => exact of_decide_eq_true hd | false => rw [hd] at h; cases h
theorem wgtn (hd : (l[j]?).bind (·.dst) = some d) (hn : Nat.ble (d + 1) n = true) (hb : ρ d = .bool (!decide p))
    (h1 : ¬ p → WL P l k (⟨some e, op, ty, pos, after, none⟩ :: rest) n (upd ρ d (.bool true)) w) (h0 : p → WL P l k rest n (upd (upd ρ d (.bool false)) e undef) w) :
    WL P l k (⟨some e, op, ty, pos, after, some (j, true)⟩ :: rest) n ρ w := wgt hd hn hb (fun h => h1 (nd_t h)) (fun h => h0 (nd_f h))
theorem wgfn (hd : (l[j]?).bind (·.dst) = some d) (hn : Nat.ble (d + 1) n = true) (hb : ρ d = .bool (!decide p))
    (h1 : ¬ p → WL P l k rest n (upd (upd ρ d (.bool true)) e undef) w) (h0 : p → WL P l k (⟨some e, op, ty, pos, after, none⟩ :: rest) n (upd ρ d (.bool false)) w) :
    WL P l k (⟨some e, op, ty, pos, after, some (j, false)⟩ :: rest) n ρ w := wgf hd hn hb (fun h => h1 (nd_t h)) (fun h => h0 (nd_f h))
end guards

/-! ### the flow -/
def Fin (P : Program) (fn : Func) (w0 : World) (post : Value → List Res → Prop) : Exit → Act → World → Prop :=
  bodyPost P fn (fun e w' => ∃ v Rs', e = .returned v ∧ post v Rs' ∧ Sat w0 Rs' w')
theorem fin_panic {P : Program} {fn : Func} {w0 : World} {post : Value → List Res → Prop} : ∀ c d v a w, Fin P fn w0 post (.panic c) (a.put d v) w → Fin P fn w0 post (.panic c) a w := by
  intro c d v a w h
  refine ⟨?_, h.2⟩
  have := h.1
  cases d <;> exact this
theorem fin_grown {P : Program} {fn : Func} {w0 : World} {post : Value → List Res → Prop} : ∀ a w, ¬ Fin P fn w0 post .outgrown a w := fun _ _ ⟨_, _, h, _⟩ => by cases h
def kFin (P : Program) (fn : Func) (w0 : World) (post : Value → List Res → Prop) : Kt := .base none (Fin P fn w0 post) fin_panic fin_grown
theorem ct_enter {P : Program} {f : FuncId} {vs : List Value} {w0 : World} {Rs : List Res} {post : Value → List Res → Prop} {fn : Func} {c : Code} (n : Nat) (hf : P.funcs[f]? = some fn) (hb : fn.body = some c) (hn : fn.ntmps = n) (hl : vs.length ≤ n)
    (h : ∀ w, Sat w0 Rs w → WC P c (kFin P fn w0 post) n (args vs) w) : Ct P f vs w0 Rs post := by
  refine ⟨fun w hS => ?_⟩
  refine calls_of_wp hf hb ?_
  rw [hn, mkA_args vs n hl]
  exact wpIn_wide.1 (h w hS).out
section flow
variable {P : Program} {k : Kt} {n : Nat} {ρ : Env} {w : World}
theorem f_region {id : Nat} {l : List Oper} (h : WL P l k l n ρ w) (hnd : ndf k.rd l = true := by rfl) : WC P (.region id l.toArray false) k n ρ w := ⟨wpIn_region_lit (list_in (k.grown P) hnd h.out)⟩
theorem f_seq {x y : Code} (h : WC P x (.thn y k) n ρ w) : WC P (.seq x y) k n ρ w := ⟨wpIn_seq h.out⟩
theorem f_ct {c : Operand} {x y : Code} (hc : ev n ρ c = .bool true) (h : WC P x k n ρ w) : WC P (.cond c x y) k n ρ w := ⟨wpIn_cond_true (by rw [mkA_eval]; exact hc) h.out⟩
theorem f_cf {c : Operand} {x y : Code} (hc : ev n ρ c = .bool false) (h : WC P y k n ρ w) : WC P (.cond c x y) k n ρ w := ⟨wpIn_cond_false (by rw [mkA_eval]; exact hc) h.out⟩
theorem f_cs {c : Operand} {x y : Code} {b : Bool} (hc : ev n ρ c = .bool b) (h1 : b = true → WC P x k n ρ w) (h0 : b = false → WC P y k n ρ w) : WC P (.cond c x y) k n ρ w :=
  ⟨wpIn_cond_split (by rw [mkA_eval]; exact hc) (fun h => (h1 h).out) (fun h => (h0 h).out)⟩
/-- A test that is decided by a fact. -/
theorem f_cp {c : Operand} {x y : Code} {b : Bool} (hc : ev n ρ c = .bool b) (hb : b = true) (h1 : WC P x k n ρ w) : WC P (.cond c x y) k n ρ w := by subst hb; exact f_ct hc h1
theorem f_cn {c : Operand} {x y : Code} {b : Bool} (hc : ev n ρ c = .bool b) (hb : b = false) (h1 : WC P y k n ρ w) : WC P (.cond c x y) k n ρ w := by subst hb; exact f_cf hc h1
theorem f_cpd {c : Operand} {x y : Code} {p : Prop} [Decidable p] (hc : ev n ρ c = .bool (decide p)) (hb : p) (h1 : WC P x k n ρ w) : WC P (.cond c x y) k n ρ w := f_cp hc (decide_eq_true hb) h1
theorem f_cnd {c : Operand} {x y : Code} {p : Prop} [Decidable p] (hc : ev n ρ c = .bool (decide p)) (hb : ¬ p) (h1 : WC P y k n ρ w) : WC P (.cond c x y) k n ρ w := f_cn hc (decide_eq_false hb) h1
theorem f_csd {c : Operand} {x y : Code} {p : Prop} [Decidable p] (hc : ev n ρ c = .bool (decide p)) (h1 : p → WC P x k n ρ w) (h0 : ¬ p → WC P y k n ρ w) : WC P (.cond c x y) k n ρ w :=
  f_cs hc (fun h => h1 (of_decide_eq_true h)) (fun h => h0 (of_decide_eq_false h))
theorem f_cpn {c : Operand} {x y : Code} {p : Prop} [Decidable p] (hc : ev n ρ c = .bool (!decide p)) (hb : ¬ p) (h1 : WC P x k n ρ w) : WC P (.cond c x y) k n ρ w := f_cp hc (by rw [decide_eq_false hb]; rfl) h1
theorem f_cnn {c : Operand} {x y : Code} {p : Prop} [Decidable p] (hc : ev n ρ c = .bool (!decide p)) (hb : p) (h1 : WC P y k n ρ w) : WC P (.cond c x y) k n ρ w := f_cn hc (by rw [decide_eq_true hb]; rfl) h1
theorem f_csn {c : Operand} {x y : Code} {p : Prop} [Decidable p] (hc : ev n ρ c = .bool (!decide p)) (h1 : ¬ p → WC P x k n ρ w) (h0 : p → WC P y k n ρ w) : WC P (.cond c x y) k n ρ w :=
  f_cs hc (fun h => h1 (by intro hp; rw [decide_eq_true hp] at h; cases h)) (fun h => h0 (by cases hd : decide p with | true => exact of_decide_eq_true hd | false => rw [hd] at h; cases h))
theorem f_block {id : Nat} {c : Code} (h : WC P c (.blk id k) n ρ w) : WC P (.block id c) k n ρ w := ⟨wpIn_block h.out⟩
theorem f_exit {id : Nat} (h : WQ P k (.exit id) n ρ w) : WC P (.exit id) k n ρ w := ⟨wpIn_exit h.out⟩
theorem f_ret (h : WQ P k .ret n ρ w) : WC P .ret k n ρ w := ⟨wpIn_ret h.out⟩
theorem f_skip (h : WQ P k .normal n ρ w) : WC P .skip k n ρ w := ⟨wpIn_skip h.out⟩
/-- What stands behind. -/
theorem x_n {y : Code} (h : WC P y k n ρ w) : WQ P (.thn y k) .normal n ρ w := ⟨h.out⟩
theorem x_te {y : Code} {id : Nat} (h : WQ P k (.exit id) n ρ w) : WQ P (.thn y k) (.exit id) n ρ w := ⟨h.out⟩
theorem x_tr {y : Code} (h : WQ P k .ret n ρ w) : WQ P (.thn y k) .ret n ρ w := ⟨h.out⟩
theorem x_b {id : Nat} (h : WQ P k .normal n ρ w) : WQ P (.blk id k) .normal n ρ w := ⟨h.out⟩
theorem x_br {id : Nat} (h : WQ P k .ret n ρ w) : WQ P (.blk id k) .ret n ρ w := ⟨h.out⟩
theorem x_be {id id' : Nat} (h : WQ P k (bif Nat.beq id' id then .normal else .exit id') n ρ w) : WQ P (.blk id k) (.exit id') n ρ w := by
  constructor
  show Exit.inBlock id (k.den P) (.exit id') (mkA n ρ) w
  have h := h.out
  simp only [Exit.inBlock]
  cases hb : Nat.beq id' id with
  | true => rw [if_pos (Nat.eq_of_beq_eq_true hb)]; rw [hb] at h; exact h
  | false =>
    have hne : id' ≠ id := fun e => by subst e; simp at hb
    rw [if_neg hne]; rw [hb] at h; exact h
theorem x_le {J : Act → World → Prop} {id : Nat} (h : WQ P k (.exit id) n ρ w) : WQ P (.lp J k) (.exit id) n ρ w := ⟨h.out⟩
theorem x_lr {J : Act → World → Prop} (h : WQ P k .ret n ρ w) : WQ P (.lp J k) .ret n ρ w := ⟨h.out⟩
theorem x_ln {J : Act → World → Prop} (h : J (mkA n ρ) w) : WQ P (.lp J k) .normal n ρ w := ⟨h⟩
/-- Forget all slots but the live ones. -/
theorem f_cut {c : Code} (L : List (Nat × Value)) (hL : agrees L ρ) (h : ∀ σ, WC P c k n (live L σ) w) : WC P c k n ρ w := by
  have := h ρ
  rwa [live_of_agrees hL] at this
/-- The round's end: the loop's relation at a smaller number. -/
structure Again {X : Type} (n : Nat) (w0 : World) (L : X → List (Nat × Value)) (Rs : X → List Res) (I : X → Prop) (μ : X → Nat) (m : Nat) (a : Act) (w : World) : Prop where
  ex : ∃ x' σ', a = mkA n (live (L x') σ') ∧ I x' ∧ μ x' < m ∧ Sat w0 (Rs x') w
theorem f_again {X : Type} {w0 : World} {L : X → List (Nat × Value)} {Rs : X → List Res} {I : X → Prop} {μ : X → Nat} {m : Nat} (x' : X) (hL : agrees (L x') ρ) (hI : I x') (hm : μ x' < m) (hS : Sat w0 (Rs x') w) : WQ P (.lp (Again n w0 L Rs I μ m) k) .normal n ρ w :=
  ⟨⟨x', ρ, by rw [live_of_agrees hL], hI, hm, hS⟩⟩
/-- A loop: ghosts X; at each round's head the live slots, the memory, a fact; the measure goes down. -/
theorem f_loop {X : Type} {c : Code} {w0 : World} (L : X → List (Nat × Value)) (Rs : X → List Res) (I : X → Prop) (μ : X → Nat) (x0 : X) (h0 : I x0) (hL : agrees (L x0) ρ) (hS : Sat w0 (Rs x0) w)
    (round : ∀ x σ w, I x → Sat w0 (Rs x) w → WC P c (.lp (Again n w0 L Rs I μ (μ x)) k) n (live (L x) σ) w) : WC P (.loop c) k n ρ w := by
  constructor
  refine wpIn_loop_ghost (fun m a w => ∃ x σ, a = mkA n (live (L x) σ) ∧ I x ∧ μ x = m ∧ Sat w0 (Rs x) w) (μ x0) ⟨x0, ρ, by rw [live_of_agrees hL], h0, rfl, hS⟩ ?_
  rintro m a w ⟨x, σ, rfl, hI, rfl, hS⟩
  refine wpIn_mono (round x σ w hI hS).out fun e a' w' q => ?_
  cases e with
  | normal => obtain ⟨x', σ', ha, hI', hm, hS'⟩ := Again.ex q; exact ⟨μ x', hm, x', σ', ha, hI', rfl, hS'⟩
  | _ => exact q
/-- Two ways meet: what holds where they meet, by ghosts. -/
structure Meet {X : Type} (n : Nat) (w0 : World) (L : X → List (Nat × Value)) (Rs : X → List Res) (I : X → Prop) (a : Act) (w : World) : Prop where
  ex : ∃ x' σ', a = mkA n (live (L x') σ') ∧ I x' ∧ Sat w0 (Rs x') w
theorem f_met {X : Type} {w0 : World} {L : X → List (Nat × Value)} {Rs : X → List Res} {I : X → Prop} (x' : X) (hL : agrees (L x') ρ) (hI : I x') (hS : Sat w0 (Rs x') w) : WQ P (.lp (Meet n w0 L Rs I) k) .normal n ρ w :=
  ⟨⟨x', ρ, by rw [live_of_agrees hL], hI, hS⟩⟩
theorem f_meet {X : Type} {x y : Code} {w0 : World} (L : X → List (Nat × Value)) (Rs : X → List Res) (I : X → Prop) (h1 : WC P x (.lp (Meet n w0 L Rs I) k) n ρ w) (h2 : ∀ x σ w, I x → Sat w0 (Rs x) w → WC P y k n (live (L x) σ) w) : WC P (.seq x y) k n ρ w := by
  constructor
  refine wpIn_seq (wpIn_mono h1.out fun e a' w' q => ?_)
  cases e with
  | normal => obtain ⟨x', σ', rfl, hI', hS'⟩ := Meet.ex q; exact (h2 x' σ' w' hI' hS').out
  | _ => exact q
end flow

/-! ### results -/
section fin
variable {P : Program} {n : Nat} {ρ : Env} {w w0 : World} {fn : Func} {post : Value → List Res → Prop} {Rs : List Res}
/-- A result is read. -/
def RdV (P : Program) (n : Nat) (ρ : Env) (w : World) (r : ResultVar) (v : Value) : Prop :=
  match r with
  | .tmp t => ev n ρ (.tmp t) = v
  | .cell a t => ∃ ad, ev n ρ (.tmp a) = .pointer (some ad) ∧ (loadVar t ad).run P w = .ok v w
theorem rdv_tmp {t : Nat} {v : Value} (h : ev n ρ (.tmp t) = v) : RdV P n ρ w (.tmp t) v := h
theorem rdv_cell {a : Nat} {t : TypeId} {b sz : Nat} {cs : List Value} {T : TypeId} {Rs' : List Res} (h : ev n ρ (.tmp a) = .pointer (some ⟨b, 0, none⟩)) (hT : TL P t true sz) (hS : Sat w0 Rs w) (hp : Pick Rs (boxR b cs T) Rs') (hl : cs.length = sz) : RdV P n ρ w (.cell a t) (.agg cs.toArray) := by
  refine ⟨_, h, ?_⟩
  have h1 := run_loadCells_list (P := P) w ⟨b, 0, none⟩ cs (fun j v hj => by rw [add_lit]; simpa using box_cell hp hj w hS)
  rw [hl] at h1
  simp [loadVar, hT.isAgg, hT.sizeOf, h1]
theorem mkA_getD (n : Nat) (ρ : Env) (t : Nat) : (mkA n ρ).tmps.getD t undef = ev n ρ (.tmp t) := mkA_eval n ρ (.tmp t)
theorem fin0 (hr : fn.results = #[]) (hS : Sat w0 Rs w) (hp : post (.tuple #[]) Rs) : WQ P (kFin P fn w0 post) .ret n ρ w :=
  ⟨⟨rfl, .tuple #[], by simp [results, hr], _, _, rfl, hp, hS⟩⟩
theorem fin1 {r : ResultVar} {v : Value} (hr : fn.results = #[r]) (hv : RdV P n ρ w r v) (hS : Sat w0 Rs w) (hp : post v Rs) : WQ P (kFin P fn w0 post) .ret n ρ w := by
  refine ⟨⟨rfl, v, ?_, _, _, rfl, hp, hS⟩⟩
  simp only [results, hr]
  cases r with
  | tmp t => simp [-Array.getD_eq_getD_getElem?, mkA_getD, show ev n ρ (.tmp t) = v from hv]
  | cell a t => obtain ⟨ad, h1, h2⟩ := hv; simp [-Array.getD_eq_getD_getElem?, mkA_getD, h1, asAddr, h2]
theorem fin2 {r r' : ResultVar} {v v' : Value} (hr : fn.results = #[r, r']) (hv : RdV P n ρ w r v) (hv' : RdV P n ρ w r' v') (hS : Sat w0 Rs w) (hp : post (.tuple #[v, v']) Rs) : WQ P (kFin P fn w0 post) .ret n ρ w := by
  refine ⟨⟨rfl, .tuple #[v, v'], ?_, _, _, rfl, hp, hS⟩⟩
  simp only [results, hr]
  cases r with
  | tmp t =>
    cases r' with
    | tmp t' => simp [-Array.getD_eq_getD_getElem?, mkA_getD, show ev n ρ (.tmp t) = v from hv, show ev n ρ (.tmp t') = v' from hv']
    | cell a' t' => obtain ⟨ad', h1', h2'⟩ := hv'; simp [-Array.getD_eq_getD_getElem?, mkA_getD, show ev n ρ (.tmp t) = v from hv, h1', asAddr, h2']
  | cell a t =>
    obtain ⟨ad, h1, h2⟩ := hv
    cases r' with
    | tmp t' => simp [-Array.getD_eq_getD_getElem?, mkA_getD, h1, asAddr, h2, show ev n ρ (.tmp t') = v' from hv']
    | cell a' t' => obtain ⟨ad', h1', h2'⟩ := hv'; simp [-Array.getD_eq_getD_getElem?, mkA_getD, h1, asAddr, h2, h1', h2']
/-- The body's end where no return stands. -/
theorem fin_norm (h : WQ P (kFin P fn w0 post) .ret n ρ w) : WQ P (kFin P fn w0 post) .normal n ρ w := ⟨h.out⟩
end fin
end Go.Sx

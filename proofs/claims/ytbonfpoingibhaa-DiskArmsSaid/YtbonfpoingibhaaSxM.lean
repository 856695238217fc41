/- Sx, part M: rows that are written in place, rows of rows, made rows, functions as values. -/
import Derived.Test.YtbonfpoingibhaaSxL
import Derived.Laws.OwnMore
import Derived.Laws.MakeOwn
set_option linter.unusedVariables false
set_option linter.unusedSimpArgs false
namespace Go.Sx
open Go.RowKit
variable {τ : Type}

theorem Enc.all_set (E : Enc τ) : ∀ (l : List τ) (i j : Nat) (hi : i < l.length) (v : Value) (e' : τ), E.enc e' = (E.enc l[i]).set j v → j < E.sz → E.all (l.set i e') = (E.all l).set (i * E.sz + j) v := by
  intro l
  induction l with
  | nil => intro i j hi; simp at hi
  | cons x l ih =>
    intro i j hi v e' he hj
    cases i with
    | zero =>
      simp only [List.getElem_cons_zero] at he
      rw [List.set_cons_zero, E.all_cons, E.all_cons, he, Nat.zero_mul, Nat.zero_add, List.set_append_left _ _ (by rw [E.len]; exact hj)]
    | succ i =>
      have := ih i j (by simpa using hi) v e' (by simpa using he) hj
      rw [List.set_cons_succ, E.all_cons, E.all_cons, this, List.set_append_right _ _ (by rw [E.len, Nat.succ_mul]; omega), E.len, Nat.succ_mul, show i * E.sz + E.sz + j - E.sz = i * E.sz + j by omega]

section
variable {P : Program} {l : List Oper} {k : Kt} {rest : List Oper} {n : Nat} {ρ : Env} {w w0 : World} {Rs Rs' Rt : List Res}
variable {ty : TypeId} {pos : String} {after : Array Edge} {x y : Operand} {t T : TypeId} {d : Nat} {v : Value}
theorem Sat.setElem {E : Enc τ} {ad : Addr} {cap i j : Nat} {xs : List τ} {e' : τ} (hS : Sat w0 Rs w) (hs : Swap Rs (rowR E T (some ad) cap xs) (rowR E T (some ad) cap (xs.set i e')) Rs') (hi : i < xs.length) (hj : j < E.sz) (he : E.enc e' = (E.enc xs[i]).set j v) (h1 : v.oneCell' = true) :
    (∃ c, w.cell? (ad.add (i * E.sz + j)) = some c) ∧ w.frozen? (ad.add (i * E.sz + j)) = false ∧ Sat w0 Rs' (w.setCell (ad.add (i * E.sz + j)) v) := by
  obtain ⟨S, ⟨ho, hA⟩, hdom, hstep⟩ := hS.turn hs
  rcases ho.2 with ⟨hv, h00⟩ | ⟨gb, cp, cur, hv, hb0, hgb, q1, q2, q3, q4⟩
  · injection hv with h0; cases h0
  · injection hv with hA0 _ hc0
    obtain rfl : ad = ⟨gb, 0, none⟩ := by injection hA0
    subst hc0
    have hlt : i * E.sz + j < xs.length * E.sz := by
      have : (i + 1) * E.sz ≤ xs.length * E.sz := Nat.mul_le_mul_right _ hi
      rw [Nat.succ_mul] at this; omega
    have hlt2 : i * E.sz + j < cur.size := by
      rw [q3]; exact Nat.lt_of_lt_of_le hlt (Nat.mul_le_mul_right _ q1)
    rw [add_lit, Nat.zero_add]
    refine ⟨⟨cur[i * E.sz + j], by simp [World.cell?, hgb, hlt2]⟩, by simp [World.frozen?, hgb], ?_⟩
    have hheap : (w.setCell ⟨gb, i * E.sz + j, none⟩ v).heap[gb]? = some (.cells (cur.setIfInBounds (i * E.sz + j) v) T (0, 0)) := by
      simp [World.setCell, Array.getElem?_modify, hgb]
    refine hstep S _ ⟨rfl, rfl, rfl, by simp [World.setCell], fun k _ hk => Below.heap_setCell _ _ _ _ (fun e => hk (by rw [show k = gb from e]; exact hA ⟨gb, 0, none⟩ rfl))⟩ (fun k hk => .inl hk) ⟨⟨E.all_length _, .inr ⟨gb, cap, _, by simp, hb0, hheap, by simpa using q1, q2, by simpa using q3, ?_⟩⟩, hA⟩
    rw [Array.toList_setIfInBounds, List.length_set, E.all_set xs i j hi v e' he hj, ← q4, List.take_set]
theorem w_stE {E : Enc τ} {ad : Addr} {cap i j : Nat} {xs : List τ} {agg : Bool} (e' : τ) (hS : Sat w0 Rs w) (hx : ev n ρ x = .pointer (some (ad.add (i * E.sz + j)))) (hy : ev n ρ y = v) (hi : i < xs.length) (h : ∀ w', Sat w0 Rs' w' → WL P l k rest n ρ w') [hT : TL P t agg 1] (hj : j < E.sz := by decide) (he : E.enc e' = (E.enc xs[i]).set j v := by rfl) (hv : v.cells = #[v] := by rfl) (h1 : v.oneCell' = true := by rfl)
    (hs : Swap Rs (rowR E T (some ad) cap xs) (rowR E T (some ad) cap (xs.set i e')) Rs' := by first | ((with_reducible (repeat (first | exact Swap.hd | apply Swap.tl))); done) | ((repeat (first | exact Swap.hd | apply Swap.tl)); done) | fail) :
    WL P l k (⟨none, .store t x y, ty, pos, after, none⟩ :: rest) n ρ w := by
  obtain ⟨⟨c, hc⟩, hf, hS'⟩ := hS.setElem (v := v) hs hi hj he h1
  refine wk rfl (w' := w.setCell (ad.add (i * E.sz + j)) v) ?_ (h _ hS')
  have hst : (store (ad.add (i * E.sz + j)) v).run P w = .ok () (w.setCell (ad.add (i * E.sz + j)) v) := by
    cases v <;> simp [Value.oneCell'] at h1 <;> simp [store, Sem.run, hc, hf]
  simp [execOp, hx, hy, Instr.storeAt, Instr.sureAddr, storeVar, hT.sizeOf, hv, storeCells, add_zero, hst]
theorem w_stE0 {E : Enc τ} {ad : Addr} {cap i : Nat} {xs : List τ} {agg : Bool} (e' : τ) (hS : Sat w0 Rs w) (hx : ev n ρ x = .pointer (some (ad.add (i * E.sz)))) (hy : ev n ρ y = v) (hi : i < xs.length) (h : ∀ w', Sat w0 Rs' w' → WL P l k rest n ρ w') [hT : TL P t agg 1] (he : E.enc e' = (E.enc xs[i]).set 0 v := by rfl) (hv : v.cells = #[v] := by rfl) (h1 : v.oneCell' = true := by rfl)
    (hs : Swap Rs (rowR E T (some ad) cap xs) (rowR E T (some ad) cap (xs.set i e')) Rs' := by first | ((with_reducible (repeat (first | exact Swap.hd | apply Swap.tl))); done) | ((repeat (first | exact Swap.hd | apply Swap.tl)); done) | fail) :
    WL P l k (⟨none, .store t x y, ty, pos, after, none⟩ :: rest) n ρ w := w_stE (j := 0) e' hS hx hy hi h E.pos he hv h1 hs
end

/-! ### many resources as one -/
def bigR (L : List Res) : Res where
  holds S w := SatD L S w
  lcl S S' w w' h hw hS := h.mono hw hS
theorem SatD.big_out {L X : List Res} {D : Nat → Prop} {w : World} (h : SatD (bigR L :: X) D w) : SatD (L ++ X) D w := by
  obtain ⟨S, hS, hL, hX⟩ := h
  refine (hX.join L S (fun k hk hd => hd.2 hk) hL).mono (fun _ _ => rfl) fun k hk => ?_
  rcases hk with hk | hk
  · exact hS k hk
  · exact hk.1
theorem SatD.big_in {X : List Res} {w : World} : ∀ {L : List Res} {D : Nat → Prop}, SatD (L ++ X) D w → SatD (bigR L :: X) D w := by
  intro L
  induction L with
  | nil => intro D h; exact ⟨fun _ => False, fun _ h => h.elim, trivial, h.mono (fun _ _ => rfl) fun k hk => ⟨hk, fun h => h⟩⟩
  | cons R L ih =>
    intro D h
    obtain ⟨S1, h1, hR, hr⟩ := h
    obtain ⟨S2, h2, hL, hX⟩ := ih hr
    refine ⟨fun k => S1 k ∨ S2 k, fun k hk => hk.elim (h1 k) (fun h => (h2 k h).1), ⟨S1, fun k hk => .inl hk, hR, hL.mono (fun _ _ => rfl) fun k hk => ⟨.inr hk, fun h => (h2 k hk).2 h⟩⟩, hX.mono (fun _ _ => rfl) fun k hk => ⟨hk.1.1, fun h => h.elim hk.1.2 hk.2⟩⟩
theorem Pick.app {L L' : List Res} {R : Res} (h : Pick L R L') (X : List Res) : Pick (L ++ X) R (L' ++ X) := by
  induction h with
  | hd => exact .hd
  | tl _ ih => exact .tl ih
section
variable {w0 w : World} {L L' X : List Res} {R : Res}
theorem Sat.big_out (h : Sat w0 (bigR L :: X) w) : Sat w0 (L ++ X) w := ⟨h.1, h.2.big_out⟩
theorem Sat.big_in (h : Sat w0 (L ++ X) w) : Sat w0 (bigR L :: X) w := ⟨h.1, h.2.big_in⟩
/-- One of the many is taken out. -/
theorem Sat.focus (h : Sat w0 (bigR L :: X) w) (hp : Pick L R L') : Sat w0 (R :: bigR L' :: X) w := by
  refine ⟨h.1, ?_⟩
  obtain ⟨S, hS, hR, hr⟩ := (hp.app X).satD h.2.big_out
  exact ⟨S, hS, hR, hr.big_in⟩
theorem Sat.unfocus (h : Sat w0 (R :: bigR L' :: X) w) (hp : Pick L R L') : Sat w0 (bigR L :: X) w := by
  refine ⟨h.1, ?_⟩
  obtain ⟨S, hS, hR, hr⟩ := h.2
  have : SatD (R :: (L' ++ X)) (Dom w0 w) w := ⟨S, hS, hR, hr.big_out⟩
  exact ((hp.app X).satD_back this).big_in
end
theorem pick_map {α : Type} (f : α → Res) : ∀ (l : List α) (i : Nat) (hi : i < l.length), Pick (l.map f) (f l[i]) ((l.eraseIdx i).map f)
  | x :: l, 0, _ => .hd
  | x :: l, i + 1, hi => .tl (pick_map f l i (by simpa using hi))
theorem pick_set {α : Type} (f : α → Res) : ∀ (l : List α) (i : Nat) (x' : α) (hi : i < l.length), Pick ((l.set i x').map f) (f x') ((l.eraseIdx i).map f)
  | x :: l, 0, _, _ => .hd
  | x :: l, i + 1, x', hi => .tl (pick_set f l i x' (by simpa using hi))
theorem Sat.big_nones {w0 w : World} {X : List Res} {E : Enc τ} {T : TypeId} (h : Sat w0 X w) : ∀ m, Sat w0 (bigR (List.replicate m (rowR E T none 0 ([] : List τ))) :: X) w
  | 0 => Sat.big_in (L := []) h
  | m + 1 => by
    have h1 := (Sat.big_out (Sat.big_nones (E := E) (T := T) h m)).row_none (E := E) (T := T)
    rw [List.replicate_succ]
    exact Sat.big_in h1

/-! ### made rows -/
section
variable {P : Program} {l : List Oper} {k : Kt} {rest : List Oper} {n : Nat} {ρ : Env} {w w0 : World} {Rs Rs' Rt : List Res}
variable {ty : TypeId} {pos : String} {after : Array Edge} {x y : Operand} {t T : TypeId} {d : Nat} {v : Value}
theorem madeCells_all (E : Enc τ) (z : Value) (e0 : τ) (hz : z.cells.toList = E.enc e0) (m : Nat) : (madeCells z.cells (m * E.sz)).toList = E.all (List.replicate m e0) := by
  have hzs : z.cells.size = E.sz := by rw [← E.len e0, ← hz]; rfl
  apply List.ext_getElem?
  intro i
  simp only [madeCells, Array.toList_map, Array.toList_range, List.getElem?_map]
  by_cases hi : i < m * E.sz
  · have hq : i / E.sz < m := Nat.div_lt_of_lt_mul (by rw [Nat.mul_comm]; exact hi)
    have hr : i % E.sz < E.sz := Nat.mod_lt _ E.pos
    have hx : (List.replicate m e0)[i / E.sz]? = some e0 := by simp [hq]
    have hv : (E.enc e0)[i % E.sz]? = some ((E.enc e0)[i % E.sz]'(by rw [E.len]; exact hr)) := by simp [E.len, hr]
    have := E.all_get hx hv
    rw [show i / E.sz * E.sz + i % E.sz = i by rw [Nat.mul_comm]; exact Nat.div_add_mod i E.sz] at this
    rw [this]
    simp only [List.getElem?_range hi, Option.map_some, hzs]
    congr 1
    rw [getElem!_pos z.cells _ (by rw [hzs]; exact hr)]
    simp only [← Array.getElem_toList, hz]
  · rw [List.getElem?_eq_none (by simp; omega), List.getElem?_eq_none (by rw [E.all_length]; simp; omega)]
    rfl
theorem w_mk {E : Enc τ} {bytes m : Nat} {k1 k2 : IntKind} (e0 : τ) (hS : Sat w0 Rs w) (hx : ev n ρ x = .int k1 (m : Int)) (hy : ev n ρ y = .int k2 (m : Int)) (h : ∀ b w', Sat w0 (rowR E T (some ⟨b, 0, none⟩) m (List.replicate m e0) :: Rs) w' → WL P l k rest n (upd ρ d (.slice (some ⟨b, 0, none⟩) m m)) w') [hE : EL P t T E bytes] (hz : ∀ i z, P.info? T = some i → i.zero = some z → z.cells.toList = E.enc e0) (hb : bytes * m ≤ 281474976710656) (hm : m ≤ 9223372036854775807) :
    WL P l k (⟨some d, .makeSlice t x y, ty, pos, after, none⟩ :: rest) n ρ w := by
  obtain ⟨i, z, hi, hzz, hsz, hby, hzs, _⟩ := hE.el
  subst hby
  obtain ⟨w', hr, hown, hg⟩ := run_make_full (P := P) w 0 t T i z E.sz hE.sl hi hzz hsz k1 k2 m hb (by simp [maxLen]; exact hm) (Nat.zero_le _)
  refine wv rfl (v := .slice (some ⟨w.heap.size, 0, none⟩) m m) (w' := w') (by simp [execOp, hx, hy, hr]) (h _ _ ?_)
  have hlt := hown.lt w.heap.size rfl
  refine hS.fresh [rowR E T (some ⟨w.heap.size, 0, none⟩) m (List.replicate m e0)] w' (turn_of_grown hg fun k hk => by cases hk) ⟨fun k => k = w.heap.size, fun k hk => by subst hk; exact ⟨Nat.le_refl _, hlt.2⟩, ⟨?_, fun a ha => by cases ha; rfl⟩, trivial⟩
  rw [madeCells_all E z e0 (hz i z hi hzz)] at hown
  simpa using hown
/-- a function as a value -/
theorem y_mkf {C : World → Prop} {f : FuncId} {dst : Option Nat} {g : Option (Nat × Bool)} {cs : List Operand} {vs : List Value} (hx : cs.map (ev n ρ) = vs) : Yld P C n ρ ⟨dst, .makeFunc (.func f) #[] cs.toArray, ty, pos, after, g⟩ (.func (.func f) #[] vs.toArray) := by
  subst hx
  refine ⟨fun w _ => ?_⟩
  simp [execOp, Instr.makeFunc]
theorem run_callv {f : FuncId} {xs : List Operand} {ts : Array TypeId} {vs cs : List Value} {dst : Option Nat} {g : Option (Nat × Bool)} {c : Operand} (hf : FC P f) (hc : ev n ρ c = .func (.func f) #[] cs.toArray) (ha : xs.map (ev n ρ) = vs) (w : World) : (execOp (ev n ρ) ⟨dst, .call { callee := .value c, args := xs.toArray, argTypes := ts }, ty, pos, after, g⟩).run P w = .ok (.enter f (vs ++ cs).toArray) w := by
  obtain ⟨fn, h1, h2, h3⟩ := hf.fn
  subst ha
  have h2' : ¬ fn.name = "runtime.NumGoroutine" := by simpa using h2
  have h3' : ¬ fn.body = none := fun h => by rw [h] at h3; simp at h3
  simp [execOp, resolve, hc, Deferred.ofValue, invoke, callFunc, program, Sem.run, h1, h2', h3']
/-- a function value is called -/
theorem w_clV {f : FuncId} {xs : List Operand} {ts : Array TypeId} {vs cs : List Value} {c : Operand} {post : Value → List Res → Prop} (hS : Sat w0 Rs w) (hc : ev n ρ c = .func (.func f) #[] cs.toArray) (ha : xs.map (ev n ρ) = vs) (hct : Ct P f (vs ++ cs) w0 Rs post) (h : ∀ v Rs' w', post v Rs' → Sat w0 Rs' w' → WL P l k rest n (upd ρ d v) w') [hf : FC P f] :
    WL P l k (⟨some d, .call { callee := .value c, args := xs.toArray, argTypes := ts }, ty, pos, after, none⟩ :: rest) n ρ w := by
  constructor
  unfold wpList
  rw [wanted_eq]
  simp only [wn, if_true]
  refine .inl ?_
  unfold Oper.wp
  rw [mkA_evalF, run_callv hf hc ha]
  refine (hct.out w hS).mono fun e w' hR => ?_
  obtain ⟨v, Rs', rfl, hp, hs'⟩ := hR
  show wpList P l.toArray (k.den P) rest ((mkA n ρ).put (some d) v) w'
  rw [mkA_put]
  exact (h v Rs' w' hp hs').out
end
section
variable {P : Program} {n : Nat} {ρ : Env} {w w0 : World} {k : Kt} {Rs Rt L L' : List Res} {R : Res}
/-- Two ways meet behind x. -/
theorem f_meetT {X : Type} {x y : Code} (L : X → List (Nat × Value)) (Rs : X → List Res) (I : X → Prop) (h1 : WC P x (.lp (Meet n w0 L Rs I) k) n ρ w) (h2 : ∀ x σ w, I x → Sat w0 (Rs x) w → WC P y k n (live (L x) σ) w) : WC P x (.thn y k) n ρ w := by
  constructor
  refine wpIn_mono h1.out fun e a' w' q => ?_
  cases e with
  | normal => obtain ⟨x', σ', rfl, hI', hS'⟩ := Meet.ex q; exact (h2 x' σ' w' hI' hS').out
  | _ => exact q
theorem Sat.focusA (h : Sat w0 Rs w) (hp : Pick L R L') (hb : Pick Rs (bigR L) Rt := by first | ((with_reducible (repeat (first | exact Pick.hd | apply Pick.tl))); done) | ((repeat (first | exact Pick.hd | apply Pick.tl)); done) | fail) : Sat w0 (R :: bigR L' :: Rt) w := (h.pick hb).focus hp
end
section
variable {P : Program} {k : Kt} {n : Nat} {ρ ρ' : Env} {w w0 : World} {Rs : List Res}
/-- An order is drawn; the loads want RsS alone. -/
theorem r_dS {id m : Nat} {l : List Oper} {σ : Env} (M : List (Nat × Nat)) (is : Od) (RsS : List Res) (hS : Sat w0 Rs w) (hmx : P.follows .mixedOrders = true) (hσ : σ = ρ) (h : ∀ w', Sat w0 Rs w' → WH P l (fun _ => Sat w0 RsS) k is n ρ' w') (hm : maskAt M id = m := by first | ((conv => (lhs; whnf)); done) | fail) (hp : Pr σ m ρ ρ' := by repeat (first | exact Pr.z | ((with_reducible apply Pr.hit); rfl) | ((with_reducible apply Pr.miss); rfl) | with_reducible apply Pr.lv | with_reducible apply Pr.a1 | with_reducible apply Pr.a2 | with_reducible apply Pr.a3 | with_reducible apply Pr.a4 | with_reducible apply Pr.a0 | with_reducible apply Pr.ac | exact Pr.nil)) (hB : (Nat.beq is.len l.length && Region.noSelect l.toArray && drawB l is (Array.replicate l.length false)) = true := by decide +kernel) (hnd : ndf k.rd l = true := by rfl) : WC P (.region id l.toArray true) k n ρ w := by
  refine f_pr M hσ hm hp ?_
  simp only [Bool.and_eq_true] at hB
  exact ⟨wp_region_X (S := fun _ => Sat w0 RsS) is (Nat.eq_of_beq_eq_true hB.1.1) hmx hB.1.2 (k.panic P) hB.2 (h { w with drawn := w.drawn + 1 } (hS.drew ⟨rfl, rfl, rfl, rfl⟩)).out (k.grown P) hnd⟩
/-- .. each load wants its own. -/
theorem r_dF {id m : Nat} {l : List Oper} {σ : Env} (M : List (Nat × Nat)) (is : Od) (RsF : Nat → List Res) (hS : Sat w0 Rs w) (hmx : P.follows .mixedOrders = true) (hσ : σ = ρ) (h : ∀ w', Sat w0 Rs w' → WH P l (fun q => Sat w0 (RsF q)) k is n ρ' w') (hm : maskAt M id = m := by first | ((conv => (lhs; whnf)); done) | fail) (hp : Pr σ m ρ ρ' := by repeat (first | exact Pr.z | ((with_reducible apply Pr.hit); rfl) | ((with_reducible apply Pr.miss); rfl) | with_reducible apply Pr.lv | with_reducible apply Pr.a1 | with_reducible apply Pr.a2 | with_reducible apply Pr.a3 | with_reducible apply Pr.a4 | with_reducible apply Pr.a0 | with_reducible apply Pr.ac | exact Pr.nil)) (hB : (Nat.beq is.len l.length && Region.noSelect l.toArray && drawB l is (Array.replicate l.length false)) = true := by decide +kernel) (hnd : ndf k.rd l = true := by rfl) : WC P (.region id l.toArray true) k n ρ w := by
  refine f_pr M hσ hm hp ?_
  simp only [Bool.and_eq_true] at hB
  exact ⟨wp_region_X (S := fun q => Sat w0 (RsF q)) is (Nat.eq_of_beq_eq_true hB.1.1) hmx hB.1.2 (k.panic P) hB.2 (h { w with drawn := w.drawn + 1 } (hS.drew ⟨rfl, rfl, rfl, rfl⟩)).out (k.grown P) hnd⟩
end
end Go.Sx

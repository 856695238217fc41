/- Sx, part Q: the rules of maps. -/
import Derived.Test.YtbonfpoingibhaaSxP
set_option linter.unusedVariables false
set_option linter.unusedSimpArgs false
set_option linter.unusedSectionVars false
namespace Go.Sx
open Go.RowKit
open Go.ChangeMaps (setBlock)
variable {κ ν : Type} [DecidableEq κ]

/-- The zero value of a type. -/
class ZE (P : Program) (t : TypeId) (v : outParam Value) : Prop where
  out : (P.info? t).map (·.zero) = some (some v)
theorem ZE.run {P : Program} {t : TypeId} {v : Value} (h : ZE P t v) (w : World) : (zeroValue t).run P w = .ok v w := by
  obtain ⟨i, hi, he⟩ := Option.map_eq_some_iff.1 h.out
  simp [zeroValue, typeInfo, hi, he]
section
variable {P : Program} {l : List Oper} {k : Kt} {rest : List Oper} {n : Nat} {ρ : Env} {w w0 : World} {Rs Rs' Rt : List Res}
variable {ty : TypeId} {pos : String} {after : Array Edge} {g : Option (Nat × Bool)} {x y z : Operand} {t kt et : TypeId} {d b r : Nat} {dst : Option Nat}
variable {K : κ → Value} {V : ν → Value} {m : List (κ × ν)} {q : κ} {v z0 : ν} {left : κ → Bool} {cur : Option κ}
theorem Sat.mapAt (h : Sat w0 Rs w) (hp : Pick Rs (mapR K V b m) Rs') : ∃ bn clock, MapAt K V w b m bn clock := by
  obtain ⟨S, ⟨_, hm⟩, _⟩ := h.holds hp
  exact hm
theorem Sat.map_nodup (h : Sat w0 Rs w) (hp : Pick Rs (mapR K V b m) Rs') : (m.map (·.1)).Nodup := by
  obtain ⟨bn, clock, hm⟩ := h.mapAt hp
  exact hm.2.2.2
/-- m[q] -/
theorem y_lkM [hK : MK P kt K] [ht : IsMap P t kt et] (hz : ZE P et (V z0)) (hx : ev n ρ x = .map (some b)) (hy : ev n ρ y = K q) (hp : Pick Rs (mapR K V b m) Rs') : Yld P (Sat w0 Rs) n ρ ⟨dst, .lookup t x y false, ty, pos, after, g⟩ (V ((mget m q).getD z0)) := by
  refine ⟨fun w hw => ?_⟩
  obtain ⟨bn, clock, hm⟩ := hw.mapAt hp
  have := run_lookupM (P := P) (t := t) (k := q) (z0 := z0) ht.out hz.run hm
  simp [execOp, hx, hy, this]
/-- make(map) -/
theorem w_mm (K : κ → Value) (V : ν → Value) (hS : Sat w0 Rs w) (h : ∀ b w', Sat w0 (mapR K V b [] :: Rs) w' → WL P l k rest n (upd ρ d (.map (some b))) w') :
    WL P l k (⟨some d, .makeMap t none, ty, pos, after, none⟩ :: rest) n ρ w := by
  refine wv rfl (v := .map (some w.heap.size)) (w' := w.alloc (.map #[] 0)) (by simp [execOp, show (Instr.makeMap t none).run P w = .ok (.map (some w.heap.size)) (w.alloc (.map #[] 0)) from rfl]) (h _ _ ?_)
  refine hS.fresh [mapR K V w.heap.size []] _ ⟨rfl, rfl, rfl, by simp, fun k hk _ => Below.heap_alloc w _ k hk⟩ ⟨fun k => k = w.heap.size, fun k hk => by subst hk; simp, ⟨rfl, fun _ => 0, 0, ?_, by simp, by simp, by simp⟩, trivial⟩
  simpa [ents] using heap_alloc_new w (.map #[] 0)
/-- m[q] = v -/
theorem w_mu [hK : MK P kt K] [ht : IsMap P t kt et] (v : ν) (hS : Sat w0 Rs w) (hx : ev n ρ x = .map (some b)) (hy : ev n ρ y = K q) (hv : ev n ρ z = V v) (hs : Swap Rs (mapR K V b m) (mapR K V b (mput m q v)) Rs') (h : ∀ w', Sat w0 Rs' w' → WL P l k rest n ρ w') :
    WL P l k (⟨none, .mapUpdate t x y z, ty, pos, after, none⟩ :: rest) n ρ w := by
  obtain ⟨S, ⟨hb, bn, clock, hm⟩, _, hstep⟩ := hS.turn hs
  rcases run_updateM (P := P) (t := t) (k := q) (v := v) ht.out hm with ⟨hk, hr⟩ | ⟨hk, hr⟩
  · exact wk rfl (by simp [execOp, hx, hy, hv, hr]) (h _ (hstep S _ (sb_turn hb) (fun k hk => .inl hk) ⟨hb, bn, clock, hm.put_old hk⟩))
  · exact wk rfl (by simp [execOp, hx, hy, hv, hr]) (h _ (hstep S _ (sb_turn hb) (fun k hk => .inl hk) ⟨hb, _, _, (hm.put_new hk).2⟩))
/-- the entry of a new key -/
theorem w_me [hK : MK P kt K] [ht : IsMap P t kt et] (z0 : ν) (hz : ZE P et (V z0)) (hS : Sat w0 Rs w) (hx : ev n ρ x = .map (some b)) (hy : ev n ρ y = K q) (hq : q ∉ m.map (·.1)) {R2 : Nat → List Res} (hs : ∀ s, Swap Rs (mapR K V b m) (stampR K V b (mput m q z0) q s) (R2 s)) (h : ∀ s w', Sat w0 (R2 s) w' → WL P l k rest n (upd ρ d (.tuple #[V z0, .int .i64 s])) w') :
    WL P l k (⟨some d, .mapEntry t x y, ty, pos, after, none⟩ :: rest) n ρ w := by
  obtain ⟨bn, clock, hm⟩ := hS.mapAt (hs 0).picks.choose_spec.1
  obtain ⟨S, ⟨hb, _⟩, _, hstep⟩ := hS.turn (hs clock)
  rcases hK.find w q (ents K V bn m) (m.map (·.1)) (ents_keys K V bn m) with ⟨hn, hr⟩ | ⟨j, e, hj, he, hr⟩
  · have hp := hm.put_new (v := z0) hn
    refine wv rfl (v := .tuple #[V z0, .int .i64 clock]) (w' := setBlock w b (.map (ents K V (fun x => if x = q then clock else bn x) (mput m q z0)).toArray (clock + 1))) ?_ (h clock _ (hstep S _ (sb_turn hb) (fun k hk => .inl hk) ⟨hb, _, _, hp.2, by simp, ?_⟩))
    · rw [← hp.1]
      simp [execOp, hx, hy, Instr.mapEntry, run_underlying ht.out, run_getO hm.1, hK.check, hr, hz.run, run_setO hm.1, goInt]
    · rw [mput_new hn]; simp
  · exact absurd (List.mem_of_getElem? hj) hq
/-- .. is given its value -/
theorem w_es {s : Nat} (v : ν) (hS : Sat w0 Rs w) (hx : ev n ρ x = .map (some b)) (hy : ev n ρ y = .int .i64 s) (hv : ev n ρ z = V v) (hs : Swap Rs (stampR K V b m q s) (mapR K V b (mput m q v)) Rs') (h : ∀ w', Sat w0 Rs' w' → WL P l k rest n ρ w') :
    WL P l k (⟨none, .entryStore t x y z, ty, pos, after, none⟩ :: rest) n ρ w := by
  obtain ⟨S, ⟨hb, bn, clock, hm, hbn, hq⟩, _, hstep⟩ := hS.turn hs
  obtain ⟨x0, hx0, rfl⟩ := List.mem_map.1 hq
  obtain ⟨j, hj⟩ := List.getElem?_of_mem hx0
  have hjk : (m.map (·.1))[j]? = some x0.1 := by rw [List.getElem?_map, hj]; rfl
  have hf : (ents K V bn m).findIdx? (fun e => (e.born : Int) == (s : Int)) = some j := by
    rw [List.findIdx?_eq_some_iff_getElem]
    obtain ⟨hjl, hje⟩ := List.getElem?_eq_some_iff.1 hj
    refine ⟨by simp [ents, hjl], by simp [ents, hje, hbn], fun i hij => ?_⟩
    have hil : i < m.length := by omega
    simp only [ents, List.getElem_map, beq_iff_eq, Bool.not_eq_true']
    intro e
    have e2 : bn m[i].1 = bn x0.1 := by omega
    have := hm.2.2.1 m[i] (List.getElem_mem hil) x0 hx0 e2
    have hnd := hm.2.2.2
    have := (List.pairwise_iff_getElem.1 hnd) i j (by simp; omega) (by simp; omega) hij
    simp [hje] at this
    exact this (by assumption)
  have hmod : (ents K V bn m).toArray.modify j (fun e => { e with val := V v }) = (ents K V bn (mput m x0.1 v)).toArray := by
    rw [← modify_ents hm.2.2.2 hjk]
    apply Array.ext'
    simp only [Array.toList_modify]
    apply List.ext_getElem?
    intro i
    simp only [List.getElem?_modify, ents, List.getElem?_map]
    by_cases hij : j = i
    · subst hij; simp [hj]
    · simp [hij]
  refine wk rfl (w' := setBlock w b (.map (ents K V bn (mput m x0.1 v)).toArray clock)) ?_ (h _ (hstep S _ (sb_turn hb) (fun k hk => .inl hk) ⟨hb, bn, clock, hm.put_old hq⟩))
  rw [← hmod]
  simp [execOp, hx, hy, hv, Instr.entryStore, run_getO hm.1, asInt, asIntOf, hf, run_setO hm.1]
/-- range m -/
theorem w_rg [ht : IsMap P t kt et] (hS : Sat w0 Rs w) (hx : ev n ρ x = .map (some b)) {R2 : Nat → List Res} (hs : ∀ r, Swap Rs (mapR K V b m) (rngR K V b r m (fun _ => true) none) (R2 r)) (h : ∀ r w', Sat w0 (R2 r) w' → WL P l k rest n (upd ρ d (.pointer (some ⟨r, 0, none⟩))) w') :
    WL P l k (⟨some d, .range t x, ty, pos, after, none⟩ :: rest) n ρ w := by
  obtain ⟨S, ⟨hb, bn, clock, hm⟩, hdom, hstep⟩ := hS.turn (hs w.heap.size)
  have hlt : b < w.heap.size := (Array.getElem?_eq_some_iff.1 hm.1).1
  have hb' : (w.alloc (.mapIter (some b) clock #[] clock)).heap[b]? = some (.map (ents K V bn m).toArray clock) := (Below.heap_alloc w _ b hlt).trans hm.1
  refine wv rfl (v := .pointer (some ⟨w.heap.size, 0, none⟩)) (w' := w.alloc (.mapIter (some b) clock #[] clock)) ?_ (h w.heap.size _ (hstep (fun k => S k ∨ k = w.heap.size) _ ⟨rfl, rfl, rfl, by simp, fun k hk _ => Below.heap_alloc w _ k hk⟩ (fun k hk => ?_) ⟨.inl hb, .inr rfl, bn, clock, clock, #[], clock, ⟨hb', hm.2⟩, heap_alloc_new w _, hm.2.1, Nat.le_refl _, Nat.le_refl _, by simp, by simp⟩))
  · have := Go.run_range_map (P := P) w t kt et b _ clock ht.out hm.1
    simp [execOp, hx, this]
  · rcases hk with hk | hk
    · exact .inl hk
    · subst hk; exact .inr (by simp)
theorem Sat.rng_end (h : Sat w0 Rs w) (hs : Swap Rs (rngR K V b r m left cur) (mapR K V b m) Rs') : Sat w0 Rs' w := by
  obtain ⟨S, ⟨hb, _, bn, clock, _, _, _, hm, _⟩, hdom, hstep⟩ := h.turn hs
  exact hstep S w (Turn.refl _ _) (fun k hk => .inl hk) ⟨hb, bn, clock, hm⟩
theorem Sat.rng_nodup (h : Sat w0 Rs w) (hp : Pick Rs (rngR K V b r m left cur) Rs') : (m.map (·.1)).Nodup := by
  obtain ⟨S, ⟨hb, _, bn, clock, _, _, _, hm, _⟩, _⟩ := h.holds hp
  exact hm.2.2.2
/-- the step -/
theorem w_nx (hS : Sat w0 Rs w) (hp : Pick Rs (rngR K V b r m left cur) Rt) (hx : ev n ρ x = .pointer (some ⟨r, 0, none⟩)) {R2 : κ → List Res} (hs : ∀ q, Swap Rs (rngR K V b r m left cur) (rngR K V b r m (fun y => left y && !decide (y = q)) (some q)) (R2 q))
    (h0 : (∀ y ∈ m, left y.1 = false) → WL P l k rest n (upd ρ d (.tuple #[.bool false])) w)
    (h1 : ∀ q v w', (q, v) ∈ m → left q = true → Sat w0 (R2 q) w' → WL P l k rest n (upd ρ d (.tuple #[.bool true, K q, V v])) w') :
    WL P l k (⟨some d, .next x false, ty, pos, after, none⟩ :: rest) n ρ w := by
  obtain ⟨S, hex, _⟩ := hS.holds hp
  obtain ⟨hb, hr, bn, clock, since, seen, c0, hm, hit, hold, hsc, hsk, hl, hcur⟩ := hex
  have hold' : ∀ e ∈ (ents K V bn m).toArray.toList, e.born < since := by
    intro e he
    simp only [ents, List.mem_map] at he
    obtain ⟨y, hy, rfl⟩ := he
    exact hold y hy
  rcases Go.run_next_at (P := P) w ty r b since c0 seen _ clock hit hm.1 hold' hsc with ⟨hz, hrun⟩ | ⟨e, he, w1, hal, hrun⟩
  · refine wv rfl (v := .tuple #[.bool false]) (w' := w) (by simp [execOp, hx, hrun]) (h0 fun y hy => ?_)
    rw [hl y hy]
    have := Go.all_seen _ seen hz ⟨K y.1, V y.2, bn y.1⟩ (by simp only [ents]; exact List.mem_map.2 ⟨y, hy, rfl⟩)
    rw [this]; rfl
  · obtain ⟨hem, hes⟩ := Go.mem_left he
    simp only [ents, List.mem_map] at hem
    obtain ⟨y, hy, rfl⟩ := hem
    obtain ⟨S, ⟨hb, hr, _⟩, hdom, hstep⟩ := hS.turn (hs y.1)
    refine wv rfl (v := .tuple #[.bool true, K y.1, V y.2]) (w' := setBlock w1 r (.mapIter (some b) since (seen.push (bn y.1)) clock)) (by simp [execOp, hx, hrun]) (h1 y.1 y.2 _ hy (by rw [hl y hy, hes]; rfl) ?_)
    have hw1 : w1.heap = w.heap ∧ w1.os = w.os ∧ w1.tape = w.tape ∧ w1.output = w.output := by rcases hal with rfl | rfl <;> exact ⟨rfl, rfl, rfl, rfl⟩
    obtain ⟨e1, e2, e3, e4⟩ := hw1
    have hne : b ≠ r := fun e => by rw [e] at hm; have := hm.1; rw [hit] at this; cases this
    have hit1 : w1.heap[r]? = some (.mapIter (some b) since seen c0) := by rw [e1]; exact hit
    have hm1 : (setBlock w1 r (.mapIter (some b) since (seen.push (bn y.1)) clock)).heap[b]? = some (.map (ents K V bn m).toArray clock) := by rw [sb_other hne, e1]; exact hm.1
    refine hstep S _ ⟨e2, e3, e4, by simp [setBlock, e1], fun k _ hk => by rw [sb_other (fun e => hk (by rw [e]; exact hr)), e1]⟩ (fun k hk => .inl hk) ⟨hb, hr, bn, clock, since, seen.push (bn y.1), clock, ⟨hm1, hm.2⟩, sb_heap hit1, hold, hsk, hsk, fun x hx => ?_, fun q hq => ⟨seen, by cases hq; rfl, rfl⟩⟩
    have hin : decide (x.1 = y.1) = (bn x.1 == bn y.1) := by
      by_cases e : x.1 = y.1
      · simp [e]
      · have : ¬ bn x.1 = bn y.1 := fun e' => e (hm.2.2.1 x hx y hy e')
        simp [e, this]
    show (left x.1 && !decide (x.1 = y.1)) = _
    rw [hl x hx, Go.contains_push, hin]
    cases seen.contains (bn x.1) <;> cases (bn x.1 == bn y.1) <;> rfl
/-- who has come -/
theorem w_en (hS : Sat w0 Rs w) (hp : Pick Rs (rngR K V b r m left (some q)) Rt) (hq : (q, v) ∈ m) (hx : ev n ρ x = .pointer (some ⟨r, 0, none⟩)) (h : WL P l k rest n (upd ρ d (.tuple #[K q, V v])) w) :
    WL P l k (⟨some d, .entry x, ty, pos, after, none⟩ :: rest) n ρ w := by
  obtain ⟨S, ⟨hb, hr, bn, clock, since, seen, c0, hm, hit, hold, hsc, hsk, hl, hcur⟩, _⟩ := hS.holds hp
  obtain ⟨pre, rfl, rfl⟩ := hcur q rfl
  have hnd : ((ents K V bn m).toArray.toList.map (·.born)).Nodup := by
    rw [List.toList_toArray, ents, List.map_map, List.Nodup, List.pairwise_iff_getElem]
    intro i j hi hj hij e
    simp only [List.getElem_map, Function.comp_apply] at e
    have := hm.2.2.1 _ (List.getElem_mem (by simpa using hi)) _ (List.getElem_mem (by simpa using hj)) e
    exact (List.pairwise_iff_getElem.1 hm.2.2.2) i j (by simpa using hi) (by simpa using hj) hij (by simpa using this)
  have := Go.run_entry_at (P := P) w r b since pre _ c0 ⟨K q, V v, bn q⟩ hit hm.1 (by simp only [ents]; exact List.mem_map.2 ⟨_, hq, rfl⟩) hnd
  exact wv rfl (v := .tuple #[K q, V v]) (w' := w) (by simp [execOp, hx, this]) h
/-- a value put at a key that is there, in the round -/
theorem w_muR [hK : MK P kt K] [ht : IsMap P t kt et] (v : ν) (hS : Sat w0 Rs w) (hx : ev n ρ x = .map (some b)) (hy : ev n ρ y = K q) (hv : ev n ρ z = V v) (hq : q ∈ m.map (·.1)) (hs : Swap Rs (rngR K V b r m left cur) (rngR K V b r (mput m q v) left cur) Rs') (h : ∀ w', Sat w0 Rs' w' → WL P l k rest n ρ w') :
    WL P l k (⟨none, .mapUpdate t x y z, ty, pos, after, none⟩ :: rest) n ρ w := by
  obtain ⟨S, ⟨hb, hr, bn, clock, since, seen, c0, hm, hit, hold, hsc, hsk, hl, hcur⟩, _, hstep⟩ := hS.turn hs
  have hne : r ≠ b := fun e => by rw [e] at hit; have := hm.1; rw [hit] at this; cases this
  rcases run_updateM (P := P) (t := t) (k := q) (v := v) ht.out hm with ⟨hk, hrun⟩ | ⟨hk, hrun⟩
  · refine wk rfl (by simp [execOp, hx, hy, hv, hrun]) (h _ (hstep S _ (sb_turn hb) (fun k hk => .inl hk) ⟨hb, hr, bn, clock, since, seen, c0, hm.put_old hk, (sb_other hne).trans hit, fun x hx => ?_, hsc, hsk, fun x hx => ?_, hcur⟩))
    · obtain ⟨y, hy, e⟩ := mput_mem hk hx
      rw [← e]; exact hold y hy
    · obtain ⟨y, hy, e⟩ := mput_mem hk hx
      rw [← e]; exact hl y hy
  · exact absurd hq hk
theorem erase_ents {V : ν → Value} {bn : κ → Nat} {j : Nat} (hn : (m.map (·.1)).Nodup) (hj : (m.map (·.1))[j]? = some q) : (ents K V bn m).toArray.eraseIdxIfInBounds j = (ents K V bn (mdel m q)).toArray := by
  rw [List.getElem?_map] at hj
  obtain ⟨x, hx, rfl⟩ := Option.map_eq_some_iff.1 hj
  have hjl : j < m.length := (List.getElem?_eq_some_iff.1 hx).1
  apply Array.ext'
  unfold Array.eraseIdxIfInBounds
  rw [dif_pos (by simp [ents, hjl])]
  simp only [Array.toList_eraseIdx, ents]
  rw [← Go.ChangeMaps.map_eraseIdx]
  congr 1
  rw [mdel]
  clear hjl
  induction m generalizing j with
  | nil => simp at hx
  | cons y m ih =>
    simp only [List.map_cons, List.nodup_cons] at hn
    cases j with
    | zero =>
      simp only [List.getElem?_cons_zero, Option.some.injEq] at hx
      subst hx
      simp only [List.eraseIdx_cons_zero, List.filter_cons, decide_true, Bool.not_true, Bool.false_eq_true, if_false]
      rw [List.filter_eq_self.2]
      intro z hz
      have : ¬ z.1 = y.1 := fun e => hn.1 (List.mem_map.2 ⟨z, hz, e⟩)
      simp [this]
    | succ j =>
      have hx' : m[j]? = some x := by simpa using hx
      have : ¬ y.1 = x.1 := fun e => hn.1 (List.mem_map.2 ⟨x, List.mem_of_getElem? hx', e.symm⟩)
      simp only [List.eraseIdx_cons_succ, List.filter_cons, this, decide_false, Bool.not_false, if_true]
      rw [← ih hn.2 hx' (by rw [hx']; rfl)]
/-- delete(m, q), in the round -/
theorem w_dlR [hK : MK P kt K] [ht : IsMap P t kt et] (hS : Sat w0 Rs w) (hx : ev n ρ x = .map (some b)) (hy : ev n ρ y = K q) (hs : Swap Rs (rngR K V b r m left cur) (rngR K V b r (mdel m q) left none) Rs') (h : ∀ w', Sat w0 Rs' w' → WL P l k rest n ρ w') :
    WL P l k (⟨none, .call { callee := .builtin .delete, args := #[x, y], argTypes := #[t, kt] }, ty, pos, after, none⟩ :: rest) n ρ w := by
  obtain ⟨S, ⟨hb, hr, bn, clock, since, seen, c0, hm, hit, hold, hsc, hsk, hl, hcur⟩, _, hstep⟩ := hS.turn hs
  have hne : r ≠ b := fun e => by rw [e] at hit; have := hm.1; rw [hit] at this; cases this
  have htup : ∀ w', (execOp (ev n ρ) ⟨none, .call { callee := .builtin .delete, args := #[x, y], argTypes := #[t, kt] }, ty, pos, after, none⟩).run P w = .ok (.value (.tuple #[])) w' → Sat w0 Rs' w' → WL P l k (⟨none, .call { callee := .builtin .delete, args := #[x, y], argTypes := #[t, kt] }, ty, pos, after, none⟩ :: rest) n ρ w := by
    intro w' hr hS'
    constructor
    unfold wpList
    rw [wanted_eq]
    simp only [wn, if_true]
    refine .inl ?_
    unfold Oper.wp
    rw [mkA_evalF, hr]
    exact (h w' hS').out
  have hmem : ∀ x ∈ mdel m q, x ∈ m := fun x hx => (List.mem_filter.1 hx).1
  have hMA : MapAt K V (setBlock w b (.map (ents K V bn (mdel m q)).toArray clock)) b (mdel m q) bn clock :=
    ⟨sb_heap hm.1, fun x hx => hm.2.1 x (hmem x hx), fun x hx y hy e => hm.2.2.1 x (hmem x hx) y (hmem y hy) e, by
      rw [mdel]; exact hm.2.2.2.sublist ((List.filter_sublist).map _)⟩
  have hS' : Sat w0 Rs' (setBlock w b (.map (ents K V bn (mdel m q)).toArray clock)) :=
    hstep S _ (sb_turn hb) (fun k hk => .inl hk) ⟨hb, hr, bn, clock, since, seen, c0, hMA, (sb_other hne).trans hit, fun x hx => hold x (hmem x hx), hsc, hsk, fun x hx => hl x (hmem x hx), by simp⟩
  rcases hK.find w q (ents K V bn m) (m.map (·.1)) (ents_keys K V bn m) with ⟨hn, hrun⟩ | ⟨j, e, hj, he, hrun⟩
  · have e1 : mdel m q = m := by
      rw [mdel, List.filter_eq_self]
      intro z hz
      have : ¬ z.1 = q := fun e => hn (List.mem_map.2 ⟨z, hz, e⟩)
      simp [this]
    refine htup _ ?_ hS'
    rw [e1]
    simp [execOp, resolve, invoke, builtin, hx, hy, Builtin.delete_, run_underlying ht.out, run_getO hm.1, hK.check, hrun, run_setO hm.1]
  · refine htup _ ?_ hS'
    rw [← erase_ents hm.2.2.2 hj]
    simp [-List.eraseIdxIfInBounds_toArray, execOp, resolve, invoke, builtin, hx, hy, Builtin.delete_, run_underlying ht.out, run_getO hm.1, hK.check, hrun, run_setO hm.1]
end
end Go.Sx

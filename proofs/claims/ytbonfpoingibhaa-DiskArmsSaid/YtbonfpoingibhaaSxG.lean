/- Sx, part G: the rules of slices. -/
import Derived.Test.YtbonfpoingibhaaSxE
set_option linter.unusedVariables false
set_option linter.unusedSimpArgs false
namespace Go.Sx
open Go.RowKit
variable {τ : Type}

section ops
variable {P : Program} {C : World → Prop} {n : Nat} {ρ : Env} {dst : Option Nat} {ty : TypeId} {pos : String} {after : Array Edge} {g : Option (Nat × Bool)} {x y z : Operand} {t : TypeId}
/-- a struct built -/
theorem y_build {parts : List (Nat × Operand)} {vals : List (Nat × Value)} {out : List Value} (hrun : ∀ w, (Instr.build t vals.toArray).run P w = .ok (.agg out.toArray) w) (hp : parts.map (fun p => (p.1, ev n ρ p.2)) = vals) : Yld P C n ρ ⟨dst, .build t parts.toArray, ty, pos, after, g⟩ (.agg out.toArray) := by
  subst hp
  refine ⟨fun w _ => ?_⟩
  have := hrun w
  simp only [execOp, List.map_toArray, Sem.run_bind, this, Result.andThen_ok]
  rfl
/-- a whole block, as a struct -/
theorem y_loadB {w0 : World} {Rs Rs' : List Res} {b sz : Nat} {cs : List Value} {T : TypeId} (hT : TL P t true sz) (hx : ev n ρ x = .pointer (some ⟨b, 0, none⟩)) (hp : Pick Rs (boxR b cs T) Rs') (hl : cs.length = sz) : Yld P (Sat w0 Rs) n ρ ⟨dst, .load t x, ty, pos, after, g⟩ (.agg cs.toArray) :=
  y_loadA hT hx hl fun w hw j v hj => by rw [add_lit, Nat.zero_add]; exact box_cell hp hj w hw
/-- a cell of an element -/
theorem y_loadE {E : Enc τ} {ad : Addr} {l : List τ} {i j : Nat} {e : τ} {v : Value} (hT : TL P t false 1) (hx : ev n ρ x = .pointer (some (ad.add (i * E.sz + j)))) (hR : Rd C E (some ad) l) (hi : l[i]? = some e) (hv : (E.enc e)[j]? = some v) : Yld P C n ρ ⟨dst, .load t x, ty, pos, after, g⟩ v := by
  refine y_load1 hT hx fun w hw => ?_
  obtain ⟨ad', ha, hc⟩ := hR.out w hw i e hi
  cases ha
  exact hc j v hv
/-- an element of one cell -/
theorem y_loadE0 {E : Enc τ} {ad : Addr} {l : List τ} {i : Nat} {e : τ} {v : Value} (hT : TL P t false 1) (hx : ev n ρ x = .pointer (some (ad.add (i * E.sz)))) (hR : Rd C E (some ad) l) (hi : l[i]? = some e) (hv : (E.enc e)[0]? = some v) : Yld P C n ρ ⟨dst, .load t x, ty, pos, after, g⟩ v :=
  y_loadE (j := 0) hT hx hR hi hv
/-- a whole element -/
theorem y_loadEA {E : Enc τ} {ad : Addr} {l : List τ} {i : Nat} {e : τ} {vs : List Value} (hT : TL P t true E.sz) (hx : ev n ρ x = .pointer (some (ad.add (i * E.sz)))) (hR : Rd C E (some ad) l) (hi : l[i]? = some e) (hv : E.enc e = vs) : Yld P C n ρ ⟨dst, .load t x, ty, pos, after, g⟩ (.agg vs.toArray) := by
  subst hv
  refine y_loadA hT hx (E.len e) fun w hw j v hj => ?_
  obtain ⟨ad', ha, hc⟩ := hR.out w hw i e hi
  cases ha
  rw [add_add]
  exact hc j v hj
/-- x[:h] -/
theorem y_slH {e : TypeId} {agg : Bool} {sz m c : Nat} {A : Option Addr} {h : Int} {k : IntKind} (hu : P.underlying t = some (.slice e)) (hT : TL P e agg sz) (hx : ev n ρ x = .slice A m c) (hy : ev n ρ y = .int k h) (h0 : 0 ≤ h) (h1 : h ≤ c) :
    Yld P C n ρ ⟨dst, .slice t x none (some y) none, ty, pos, after, g⟩ (.slice A h.toNat c) := by
  refine ⟨fun w _ => ?_⟩
  cases A <;> simp [execOp, hx, hy, Instr.sliceAt, Instr.slice, Instr.sliceBounds, Instr.sliceBound, asIntOf, run_underlying hu, h0, h1, hT.sizeOf, add_zero]
/-- x[l:] -/
theorem y_slL {e : TypeId} {agg : Bool} {sz m c : Nat} {A : Option Addr} {lo : Int} {k : IntKind} (hu : P.underlying t = some (.slice e)) (hT : TL P e agg sz) (hx : ev n ρ x = .slice A m c) (hy : ev n ρ y = .int k lo) (h0 : 0 ≤ lo) (h1 : lo ≤ m) :
    Yld P C n ρ ⟨dst, .slice t x (some y) none none, ty, pos, after, g⟩ (.slice (if c = lo.toNat then A else A.map (·.add (lo.toNat * sz))) (m - lo.toNat) (c - lo.toNat)) := by
  refine ⟨fun w _ => ?_⟩
  simp [execOp, hx, hy, Instr.sliceAt, Instr.slice, Instr.sliceBounds, Instr.sliceBound, asIntOf, run_underlying hu, h0, h1, hT.sizeOf]
/-- x[l:h] -/
theorem y_slLH {e : TypeId} {agg : Bool} {sz m c : Nat} {A : Option Addr} {lo h : Int} {k k' : IntKind} (hu : P.underlying t = some (.slice e)) (hT : TL P e agg sz) (hx : ev n ρ x = .slice A m c) (hy : ev n ρ y = .int k lo) (hz : ev n ρ z = .int k' h) (h0 : 0 ≤ lo) (h1 : lo ≤ h) (h2 : h ≤ c) :
    Yld P C n ρ ⟨dst, .slice t x (some y) (some z) none, ty, pos, after, g⟩ (.slice (if c = lo.toNat then A else A.map (·.add (lo.toNat * sz))) (h.toNat - lo.toNat) (c - lo.toNat)) := by
  refine ⟨fun w _ => ?_⟩
  have h3 : 0 ≤ h := by omega
  have h4 : ¬ h < lo := by omega
  have e3 : max h 0 = h := by omega
  simp [execOp, hx, hy, hz, e3, h4, Instr.sliceAt, Instr.slice, Instr.sliceBounds, Instr.sliceBound, asIntOf, run_underlying hu, h0, h1, h2, h3, hT.sizeOf]
/-- x[l:h:m] -/
theorem y_sl3 {u : Operand} {e : TypeId} {agg : Bool} {sz m c : Nat} {A : Option Addr} {lo h mx : Int} {k k' k'' : IntKind} (hu : P.underlying t = some (.slice e)) (hT : TL P e agg sz) (hx : ev n ρ x = .slice A m c) (hy : ev n ρ y = .int k lo) (hz : ev n ρ z = .int k' h) (hw : ev n ρ u = .int k'' mx) (h0 : 0 ≤ lo) (h1 : lo ≤ h) (h2 : h ≤ mx) (h3 : mx ≤ c) :
    Yld P C n ρ ⟨dst, .slice t x (some y) (some z) (some u), ty, pos, after, g⟩ (.slice (if mx.toNat = lo.toNat then A else A.map (·.add (lo.toNat * sz))) (h.toNat - lo.toNat) (mx.toNat - lo.toNat)) := by
  refine ⟨fun w _ => ?_⟩
  have a3 : 0 ≤ h := by omega
  have a4 : 0 ≤ mx := by omega
  have a5 : max mx 0 = mx := by omega
  have a6 : max h 0 = h := by omega
  simp [a5, a6, execOp, hx, hy, hz, hw, Instr.sliceAt, Instr.slice, Instr.sliceBounds, Instr.sliceBound, asIntOf, run_underlying hu, h0, h3, a3, a4, h1, h2, hT.sizeOf]
end ops

section list
variable {P : Program} {l : List Oper} {k : Kt} {rest : List Oper} {n : Nat} {ρ : Env} {w w0 : World} {Rs Rs' Rt : List Res}
variable {ty : TypeId} {pos : String} {after : Array Edge} {g : Option (Nat × Bool)} {x y : Operand} {t T : TypeId}
/-- a slice literal of no elements -/
theorem w_bsl0 {d : Nat} {agg : Bool} {sz : Nat} (hg : wn l n ρ g = true) (hS : Sat w0 Rs w) (hu : P.underlying t = some (.slice T)) (hT : TL P T agg sz) (h : ∀ b w', Sat w0 (boxR b [] T :: Rs) w' → WL P l k rest n (upd ρ d (.slice (some ⟨b, 0, none⟩) 0 0)) w') :
    WL P l k (⟨some d, .buildSlice t 0 #[], ty, pos, after, g⟩ :: rest) n ρ w := by
  refine wv hg (v := .slice (some ⟨w.heap.size, 0, none⟩) 0 0) (w' := w.alloc (.cells #[] T)) ?_ (h _ _ (hS.alloc [] T))
  simp [execOp, Instr.buildSlice, run_underlying hu, hT.sizeOf, Instr.fill, newRow, newObj, Sem.run, show Array.range 0 = #[] from by simp [Array.range]]
/-- a slice literal of one element -/
theorem w_bsl1 {d : Nat} {agg : Bool} {sz : Nat} {v : Value} {vs z : List Value} (hg : wn l n ρ g = true) (hS : Sat w0 Rs w) (hu : P.underlying t = some (.slice T)) (hT : TL P T agg sz) (hZ : ZV P T z) (hx : ev n ρ x = v) (hv : v.cells = vs.toArray) (hl : vs.length = sz) (hlz : z.length = sz) (hsz : 0 < sz ∧ sz ≤ 1000)
    (h : ∀ b w', Sat w0 (boxR b vs T :: Rs) w' → WL P l k rest n (upd ρ d (.slice (some ⟨b, 0, none⟩) 1 1)) w') :
    WL P l k (⟨some d, .buildSlice t 1 #[(0, x)], ty, pos, after, g⟩ :: rest) n ρ w := by
  refine wv hg (v := .slice (some ⟨w.heap.size, 0, none⟩) 1 1) (w' := w.alloc (.cells vs.toArray T)) ?_ (h _ _ (hS.alloc vs T))
  obtain ⟨zv, hz, hc⟩ := hZ.run w
  have hfold : ∀ (vs : List Value) (cs : Array Value) (j0 : Nat), j0 + vs.length = cs.size → (∀ j, j < j0 → True) → (vs.zipIdx j0).foldl (fun cs (p : Value × Nat) => cs.setIfInBounds p.2 p.1) cs = (cs.toList.take j0 ++ vs).toArray := by
    intro vs
    induction vs with
    | nil => intro cs j0 h _; simp at h; subst h; simp [List.take_of_length_le]
    | cons v vs ih =>
      intro cs j0 h _
      rw [List.zipIdx_cons, List.foldl_cons, ih _ (j0 + 1) (by simp at h ⊢; omega) (fun _ _ => trivial)]
      have hj : j0 < cs.size := by simp at h; omega
      congr 1
      rw [Array.toList_setIfInBounds]
      rw [List.take_add_one]
      simp [hj, List.take_set_of_le]
  have hsz0 : ¬ sz = 0 := by omega
  have hsz1 : ¬ sz > 2 ^ 24 := by omega
  simp [execOp, hx, Instr.buildSlice, run_underlying hu, hT.sizeOf, hsz0, hsz1, hz, hc, Instr.fill, hv, hl, newRow, newObj, Sem.run]
  rw [hfold vs _ 0 (by simp [hl]) (fun _ _ => trivial)]
  simp
/-- append -/
theorem w_app {d : Nat} {E : Enc τ} {A B : Option Addr} {cap m c bytes : Nat} {xs ys : List τ} {R2 : Option Addr → Nat → List Res} (hg : wn l n ρ g = true) (hS : Sat w0 Rs w) (hE : EL P t T E bytes) (hx : ev n ρ x = .slice A xs.length cap) (hy : ev n ρ y = .slice B m c) (hp : Pick Rs (rowR E T A cap xs) Rt) (hR : Rd (Sat w0 Rs) E B ys) (hm : ys.length = m)
    (hb : (xs.length + m) * bytes ≤ 140737488355328) (hl : xs.length + m ≤ 140737488355328) (hs : ∀ A' cap', Swap Rs (rowR E T A cap xs) (rowR E T A' cap' (xs ++ ys)) (R2 A' cap')) (h : ∀ A' cap' w', Sat w0 (R2 A' cap') w' → WL P l k rest n (upd ρ d (.slice A' (xs ++ ys).length cap')) w') :
    WL P l k (⟨some d, .call { callee := .builtin .append, args := #[x, y], argTypes := #[t, t] }, ty, pos, after, g⟩ :: rest) n ρ w := by
  obtain ⟨A', cap', w', hr, hn⟩ := run_app (ty := ty) (c := c) hE hS hp hR hm hb hl
  refine wv hg ?_ (h A' cap' w' (hn _ (hs A' cap')))
  simp [execOp, resolve, invoke, builtin, hx, hy, hr]
/-- append onto a part of a row, where there is room -/
theorem w_appIn {d : Nat} {E : Enc τ} {A B : Option Addr} {h cap m c bytes : Nat} {xs ys : List τ} (hg : wn l n ρ g = true) (hS : Sat w0 Rs w) (hE : EL P t T E bytes) (hx : ev n ρ x = .slice A h cap) (hy : ev n ρ y = .slice B m c) (hp : Pick Rs (rowR E T A cap xs) Rt) (hR : Rd (Sat w0 Rs) E B ys) (hm : ys.length = m) (hh : h ≤ xs.length) (hroom : h + m ≤ cap)
    (hs : Swap Rs (rowR E T A cap xs) (rowR E T A cap (xs.take h ++ ys)) Rs') (hk : ∀ w', Sat w0 Rs' w' → WL P l k rest n (upd ρ d (.slice A (h + m) cap)) w') :
    WL P l k (⟨some d, .call { callee := .builtin .append, args := #[x, y], argTypes := #[t, t] }, ty, pos, after, g⟩ :: rest) n ρ w := by
  obtain ⟨i, z, hi, hz, hsz, hby, hzs, _⟩ := hE.el
  have hlc := hS.row hp
  obtain ⟨S, ⟨ho, hA⟩, hdom, hstep⟩ := hS.turn hs
  rcases ho.2 with ⟨hv, h0⟩ | ⟨gb, cp, cur, hv, _, hgb, h1, h2, h3, h4⟩
  · injection hv with hA0 _ hc0
    have hm0 : m = 0 := by omega
    have hh0 : h = 0 := by omega
    subst hA0
    obtain rfl : ys = [] := List.eq_nil_of_length_eq_zero (by omega)
    obtain rfl : xs = [] := List.eq_nil_of_length_eq_zero h0
    subst hm0 hh0
    refine wv hg (v := .slice none 0 cap) (w' := w) ?_ (hk w (hstep S w (Turn.refl _ _) (fun k hk => .inl hk) ⟨?_, hA⟩))
    · have hf : (Builtin.firstCells i.size 0 (.slice B 0 c)).run P w = .ok #[] w := by cases B <;> simp [Builtin.firstCells, loadCells, loadCellsFrom]
      simp [execOp, resolve, invoke, builtin, hx, hy, Builtin.append_, run_underlying hE.sl, sizeOf, typeInfo, hi, Builtin.lenOf, hf]
    · simpa using ho
  · injection hv with hA0 _ hc0
    subst hA0 hc0
    have hnews : ∀ j u, (E.all ys)[j]? = some u → ∃ ad, B = some ad ∧ w.cell? (ad.add j) = some u := by
      intro j u hj
      have hpos : 0 < ys.length := by
        rcases Nat.eq_zero_or_pos ys.length with h' | h'
        · rw [List.eq_nil_of_length_eq_zero h'] at hj; simp [Enc.all] at hj
        · exact h'
      obtain ⟨ad, rfl⟩ := hR.addr hS hpos
      exact ⟨ad, rfl, hR.cells hS j u hj⟩
    have hfit : h * E.sz + (E.all ys).length ≤ cur.size := by rw [E.all_length, h3, hm, ← Nat.add_mul]; exact Nat.mul_le_mul_right _ hroom
    have hrun : (Builtin.append_ #[t, t] ty #[.slice (some ⟨gb, 0, none⟩) h cap, .slice B m c]).run P w = .ok (.slice (some ⟨gb, 0, none⟩) (h + m) cap) (w.setRow gb (cur.toList.take (h * E.sz) ++ E.all ys ++ cur.toList.drop (h * E.sz + (E.all ys).length)).toArray) := by
      rcases Nat.eq_zero_or_pos m with h' | h'
      · obtain rfl : ys = [] := List.eq_nil_of_length_eq_zero (by omega)
        subst h'
        have hf : (Builtin.firstCells i.size 0 (.slice B 0 c)).run P w = .ok #[] w := by cases B <;> simp [Builtin.firstCells, loadCells, loadCellsFrom]
        have hid : w.setRow gb (cur.toList.take (h * E.sz) ++ E.all ([] : List τ) ++ cur.toList.drop (h * E.sz + (E.all ([] : List τ)).length)).toArray = w := by
          simp only [Enc.all_nil, List.append_nil, List.length_nil, Nat.add_zero, List.take_append_drop, Array.toArray_toList]
          exact setRow_self w gb cur T (0, 0) hgb
        have hroom' : h ≤ cap := by omega
        rw [hid]
        simp [Builtin.append_, run_underlying hE.sl, sizeOf, typeInfo, hi, Builtin.lenOf, hf, hroom', storeCells]
      · obtain ⟨ad, rfl⟩ := hR.addr hS (by omega)
        have := run_append_room (P := P) w t ty T i hE.sl hi gb h cap cur hgb ad m c (E.all ys) (by rw [E.all_length, hm, hsz]) (hR.cells hS) (E.all_one ys) hroom (by rw [hsz]; exact hfit)
        rw [hsz] at this
        exact this
    refine wv hg (w' := w.setRow gb (cur.toList.take (h * E.sz) ++ E.all ys ++ cur.toList.drop (h * E.sz + (E.all ys).length)).toArray) (v := .slice (some ⟨gb, 0, none⟩) (h + m) cap) ?_ (hk _ (hstep S _ ⟨rfl, rfl, rfl, by simp, fun k _ hk => setRow_other w gb k _ (fun e => hk (by rw [e]; exact hA _ rfl))⟩ (fun k hk => .inl hk) ⟨⟨E.all_length _, .inr ⟨gb, cap, _, ?_, Nat.zero_le _, setRow_heap w gb cur _ T _ hgb, ?_, h2, ?_, ?_⟩⟩, hA⟩))
    · simp only [execOp, resolve, invoke, builtin, List.map_toArray, List.map_cons, List.map_nil, hx, hy, Sem.run_bind, Sem.run_pure, Result.andThen_ok, hrun]
    · simp [Nat.min_eq_left hh, hm]
    · simp [Nat.min_eq_left hh, hm]; exact hroom
    · simp only [List.size_toArray, List.length_append, List.length_take, List.length_drop, Array.length_toList]; omega
    · have e1 : (xs.take h ++ ys).length = h + m := by simp [Nat.min_eq_left hh, hm]
      rw [e1, E.all_append, ← E.all_take, ← h4, List.take_take, Nat.min_eq_left (Nat.mul_le_mul_right _ hh)]
      have e2 : (cur.toList.take (h * E.sz) ++ E.all ys).length = (h + m) * E.sz := by
        rw [List.length_append, E.all_length, hm, List.length_take, Array.length_toList, Nat.add_mul]
        have : h * E.sz ≤ cur.size := by rw [h3]; exact Nat.mul_le_mul_right _ (by omega)
        omega
      show ((cur.toList.take (h * E.sz) ++ E.all ys ++ _).toArray.toList).take _ = _
      rw [List.toList_toArray, ← e2, List.take_left']
      rfl
/-- clear, behind the elements of a row -/
theorem w_clear {E : Enc τ} {A : Option Addr} {kk cap m c bytes : Nat} {xs : List τ} (hg : wn l n ρ g = true) (hS : Sat w0 Rs w) (hE : EL P t T E bytes) (hx : ev n ρ x = .slice (if cap = kk then A else A.map (·.add (kk * E.sz))) m c) (hp : Pick Rs (rowR E T A cap xs) Rt) (hk : xs.length ≤ kk) (hm : kk + m ≤ cap)
    (h : ∀ w', Sat w0 Rs w' → WL P l k rest n ρ w') :
    WL P l k (⟨none, .call { callee := .builtin .clear, args := #[x], argTypes := #[t] }, ty, pos, after, g⟩ :: rest) n ρ w := by
  obtain ⟨i, z, hi, hz, hsz, hby, hzs, hz1⟩ := hE.el
  have htup : ∀ w', (execOp (ev n ρ) ⟨none, .call { callee := .builtin .clear, args := #[x], argTypes := #[t] }, ty, pos, after, g⟩).run P w = .ok (.value (.tuple #[])) w' → Sat w0 Rs w' → WL P l k (⟨none, .call { callee := .builtin .clear, args := #[x], argTypes := #[t] }, ty, pos, after, g⟩ :: rest) n ρ w := by
    intro w' hr hS'
    constructor
    unfold wpList
    rw [wanted_eq]
    simp only [hg, if_true]
    refine .inl ?_
    unfold Oper.wp
    rw [mkA_evalF, hr]
    exact (h w' hS').out
  rcases Nat.eq_zero_or_pos m with h0 | h0
  · subst h0
    refine htup w ?_ hS
    cases hA : (if cap = kk then A else A.map (·.add (kk * E.sz))) with
    | none => rw [hA] at hx; simp [execOp, resolve, invoke, builtin, hx, Builtin.clear_, run_underlying hE.sl]
    | some a => rw [hA] at hx; simp [execOp, resolve, invoke, builtin, hx, Builtin.clear_, run_underlying hE.sl]
  · have hne : ¬ cap = kk := by omega
    rw [if_neg hne] at hx
    obtain ⟨S, ⟨ho, hA⟩, hdom, hstep⟩ := hS.turn hp.same
    rcases ho.2 with ⟨hv, h00⟩ | ⟨gb, cp, cur, hv, _, hgb, h1, h2, h3, h4⟩
    · injection hv with _ _ hc0; omega
    · injection hv with hA0 _ hc0
      subst hA0 hc0
      have hzl : (Builtin.zeroCells z.cells m).toList.length = m * E.sz := by rw [Array.length_toList, size_zeroCells, hzs]
      have hz1' : ∀ v ∈ (Builtin.zeroCells z.cells m).toList, v.oneCell' = true := by
        intro v hv
        simp only [Builtin.zeroCells, Array.toList_map, List.mem_map] at hv
        obtain ⟨q, _, rfl⟩ := hv
        have hlt : q % z.cells.size < z.cells.size := Nat.mod_lt _ (by rw [hzs]; exact E.pos)
        rw [getElem!_pos z.cells _ hlt]
        exact List.all_eq_true.1 hz1 _ (by simp)
      have hfit : kk * E.sz + 0 + (Builtin.zeroCells z.cells m).toList.length ≤ cur.size := by rw [hzl, h3, Nat.add_zero, ← Nat.add_mul]; exact Nat.mul_le_mul_right _ hm
      have hst := run_storeCells_at P gb (kk * E.sz) T (Builtin.zeroCells z.cells m).toList 0 cur w hgb hfit hz1'
      refine htup (w.setRow gb (cur.toList.take (kk * E.sz + 0) ++ (Builtin.zeroCells z.cells m).toList ++ cur.toList.drop (kk * E.sz + 0 + (Builtin.zeroCells z.cells m).toList.length)).toArray) ?_ (hstep S _ ⟨rfl, rfl, rfl, by simp, fun k _ hk => setRow_other w gb k _ (fun e => hk (by rw [e]; exact hA _ rfl))⟩ (fun k hk => .inl hk) ⟨⟨E.all_length _, .inr ⟨gb, cap, _, rfl, Nat.zero_le _, setRow_heap w gb cur _ T _ hgb, h1, h2, ?_, ?_⟩⟩, hA⟩)
      rotate_left
      · simp only [List.size_toArray, List.length_append, List.length_take, List.length_drop, Array.length_toList]
        have hl : cur.toList.length = cur.size := rfl
        have hl2 : (Builtin.zeroCells z.cells m).size = (Builtin.zeroCells z.cells m).toList.length := rfl
        omega
      · rw [List.toList_toArray, List.append_assoc, List.take_append_of_le_length (by
          have hl : cur.toList.length = cap * E.sz := h3
          rw [List.length_take, hl]
          have : kk * E.sz ≤ cap * E.sz := Nat.mul_le_mul_right _ (by omega)
          have : xs.length * E.sz ≤ kk * E.sz := Nat.mul_le_mul_right _ hk
          omega), List.take_take, Nat.add_zero, Nat.min_eq_left (Nat.mul_le_mul_right _ hk), h4]
      · have hm0 : ¬ m = 0 := by omega
        cases m with
        | zero => omega
        | succ m => simp [execOp, resolve, invoke, builtin, hx, Builtin.clear_, run_underlying hE.sl, zeroValue, typeInfo, hi, hz, add_lit, hst]
end list
end Go.Sx

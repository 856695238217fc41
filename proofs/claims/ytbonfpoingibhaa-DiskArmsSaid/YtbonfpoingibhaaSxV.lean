/- Sx, part V: whole elements written; shorter rows. -/
import Derived.Test.YtbonfpoingibhaaSxU
set_option linter.unusedVariables false
set_option linter.unusedSimpArgs false
set_option linter.unusedSectionVars false
namespace Go.Sx
open Go.RowKit
variable {τ : Type}
theorem Enc.all_setA (E : Enc τ) (l : List τ) (i : Nat) (hi : i < l.length) (e' : τ) : E.all (l.set i e') = (E.all l).take (i * E.sz) ++ E.enc e' ++ (E.all l).drop (i * E.sz + E.sz) := by
  rw [List.set_eq_take_append_cons_drop, if_pos hi, E.all_append, E.all_cons, ← E.all_take, ← E.all_drop, Nat.succ_mul, List.append_assoc]
section
variable {P : Program} {l : List Oper} {k : Kt} {rest : List Oper} {n : Nat} {ρ : Env} {w w0 : World} {Rs Rs' Rt : List Res}
variable {ty : TypeId} {pos : String} {after : Array Edge} {x y : Operand} {t T : TypeId} {d : Nat} {v : Value}
theorem Sat.row_take {E : Enc τ} {A : Option Addr} {cap : Nat} {xs : List τ} (i : Nat) (hS : Sat w0 Rs w) (hi : i ≤ xs.length) (hA : A ≠ none) (hs : Swap Rs (rowR E T A cap xs) (rowR E T A cap (xs.take i)) Rs') : Sat w0 Rs' w := by
  obtain ⟨S, ⟨ho, hAd⟩, hdom, hstep⟩ := hS.turn hs
  refine hstep S w (Turn.refl _ _) (fun k hk => .inl hk) ⟨⟨E.all_length _, ?_⟩, hAd⟩
  rcases ho.2 with ⟨hv, h0⟩ | ⟨gb, cp, cur, hv, hb0, hgb, q1, q2, q3, q4⟩
  · injection hv with h1; exact absurd h1 hA
  · injection hv with hA0 _ hc0
    subst hA0 hc0
    have hl : (xs.take i).length = i := by rw [List.length_take]; omega
    refine .inr ⟨gb, cap, cur, by rw [hl], hb0, hgb, by omega, q2, q3, ?_⟩
    rw [hl, ← E.all_take, ← q4, List.take_take, Nat.min_eq_left (Nat.mul_le_mul_right _ hi)]
/-- an element is written whole -/
theorem w_stEA {E : Enc τ} {ad : Addr} {cap i : Nat} {xs : List τ} (e' : τ) (hS : Sat w0 Rs w) (hT : TL P t true E.sz) (hx : ev n ρ x = .pointer (some (ad.add (i * E.sz)))) (hy : ev n ρ y = .agg (E.enc e').toArray) (hi : i < xs.length)
    (hs : Swap Rs (rowR E T (some ad) cap xs) (rowR E T (some ad) cap (xs.set i e')) Rs') (h : ∀ w', Sat w0 Rs' w' → WL P l k rest n ρ w') :
    WL P l k (⟨none, .store t x y, ty, pos, after, none⟩ :: rest) n ρ w := by
  obtain ⟨S, ⟨ho, hA⟩, hdom, hstep⟩ := hS.turn hs
  rcases ho.2 with ⟨hv, h00⟩ | ⟨gb, cp, cur, hv, hb0, hgb, q1, q2, q3, q4⟩
  · injection hv with h0; cases h0
  · injection hv with hA0 _ hc0
    obtain rfl : ad = ⟨gb, 0, none⟩ := by injection hA0
    subst hc0
    have hlt : i * E.sz + E.sz ≤ xs.length * E.sz := by rw [← Nat.succ_mul]; exact Nat.mul_le_mul_right _ hi
    have hle : xs.length * E.sz ≤ cap * E.sz := Nat.mul_le_mul_right _ q1
    have hfit : i * E.sz + 0 + (E.enc e').length ≤ cur.size := by rw [E.len, q3]; omega
    have hst := run_storeCells_at P gb (i * E.sz) T (E.enc e') 0 cur w hgb hfit (E.one e')
    rw [E.len, Nat.add_zero] at hst
    refine wk rfl (w' := w.setRow gb (cur.toList.take (i * E.sz) ++ E.enc e' ++ cur.toList.drop (i * E.sz + E.sz)).toArray) ?_ (h _ (hstep S _ ⟨rfl, rfl, rfl, by simp, fun k _ hk => setRow_other w gb k _ (fun e => hk (by rw [e]; exact hA _ rfl))⟩ (fun k hk => .inl hk) ⟨⟨E.all_length _, .inr ⟨gb, cap, _, by simp, hb0, setRow_heap w gb cur _ T _ hgb, by simpa using q1, q2, ?_, ?_⟩⟩, hA⟩))
    · simp only [execOp, hx, hy, Instr.storeAt, Instr.sureAddr, storeVar, Sem.run_bind, Sem.run_pure, Result.andThen, hT.sizeOf, Value.cells, List.size_toArray, E.len, List.toList_toArray, add_lit, Nat.zero_add, ne_eq, not_true_eq_false, if_false, bne_self_eq_false, Bool.false_eq_true, hst]
    · simp only [List.size_toArray, List.length_append, List.length_take, List.length_drop, Array.length_toList, E.len]
      rw [q3]; omega
    · rw [List.toList_toArray, List.length_set, E.all_setA xs i hi e', ← q4]
      have h1 : (cur.toList.take (xs.length * E.sz)).take (i * E.sz) = cur.toList.take (i * E.sz) := by rw [List.take_take, Nat.min_eq_left (by omega)]
      rw [h1, List.drop_take]
      have h2 : (cur.toList.take (i * E.sz) ++ E.enc e').length = i * E.sz + E.sz := by
        rw [List.length_append, E.len, List.length_take, Array.length_toList, q3]; omega
      rw [List.take_append, List.take_of_length_le (by rw [h2]; omega), h2]
end
end Go.Sx
namespace Go.Sx
open Go.RowKit
section
variable {κ ν : Type} [DecidableEq κ] {K : κ → Value} {V : ν → Value} {b r : Nat} {m : List (κ × ν)} {left : κ → Bool} {cur : Option κ} {w w0 : World} {Rs Rs' : List Res}
theorem Sat.rng_cur (h : Sat w0 Rs w) (hs : Swap Rs (rngR K V b r m left cur) (rngR K V b r m left none) Rs') : Sat w0 Rs' w := by
  obtain ⟨S, ⟨hb, hr, bn, clock, since, seen, c0, hm, hit, hold, hsc, hsk, hl, _⟩, hdom, hstep⟩ := h.turn hs
  exact hstep S w (Turn.refl _ _) (fun k hk => .inl hk) ⟨hb, hr, bn, clock, since, seen, c0, hm, hit, hold, hsc, hsk, hl, by simp⟩
theorem mget_filter (p : κ → Bool) (m : List (κ × ν)) (k : κ) : mget (m.filter fun x => p x.1) k = if p k = true then mget m k else none := by
  induction m with
  | nil => simp [mget]
  | cons x m ih =>
    by_cases hx : x.1 = k
    · subst hx
      by_cases hp : p x.1 = true
      · simp [mget, hp]
      · rw [List.filter_cons_of_neg (by simpa using hp), ih, if_neg hp, if_neg hp]
    · have e : mget (x :: m) k = mget m k := by simp [mget, hx]
      by_cases hp : p x.1 = true
      · rw [List.filter_cons_of_pos (by simpa using hp), e, ← ih]; simp [mget, hx]
      · rw [List.filter_cons_of_neg (by simpa using hp), ih, e]
theorem mdel_filter (p : κ → Bool) (m : List (κ × ν)) (k : κ) : mdel (m.filter fun x => p x.1) k = m.filter fun x => p x.1 && !decide (x.1 = k) := by
  rw [mdel, List.filter_filter]
  apply List.filter_congr
  intro x _
  rw [Bool.and_comm]
theorem pick_pre (G : List Res) {F F' : List Res} {R : Res} (h : Pick F R F') : Pick (G ++ F) R (G ++ F') := by
  induction G with
  | nil => exact h
  | cons x G ih => exact .tl ih
/-- who is left, counted -/
def leftN (m : List (κ × ν)) (left : κ → Bool) : Nat := (m.filter fun x => left x.1).length
theorem leftN_lt {m : List (κ × ν)} {left : κ → Bool} {q : κ} (h : q ∈ m.map (·.1)) (hl : left q = true) : leftN m (fun y => left y && !decide (y = q)) < leftN m left := by
  unfold leftN
  induction m with
  | nil => simp at h
  | cons x m ih =>
    by_cases hx : x.1 = q
    · subst hx
      rw [List.filter_cons_of_neg (by simp), List.filter_cons_of_pos (by simpa using hl), List.length_cons]
      refine Nat.lt_succ_of_le ?_
      have : (m.filter fun y => left y.1 && !decide (y.1 = x.1)).Sublist (m.filter fun y => left y.1) := by
        have e : (m.filter fun y => left y.1 && !decide (y.1 = x.1)) = (m.filter fun y => left y.1).filter (fun y => !decide (y.1 = x.1)) := by
          rw [List.filter_filter]
          apply List.filter_congr
          intro y _
          rw [Bool.and_comm]
        rw [e]; exact List.filter_sublist
      exact this.length_le
    · have h' : q ∈ m.map (·.1) := by
        simp only [List.map_cons, List.mem_cons] at h
        rcases h with h | h
        · exact absurd h.symm hx
        · exact h
      have := ih h'
      by_cases hlx : left x.1 = true
      · rw [List.filter_cons_of_pos (by simp [hlx, hx]), List.filter_cons_of_pos (by simpa using hlx)]
        simpa using this
      · rw [List.filter_cons_of_neg (by simp [hlx]), List.filter_cons_of_neg (by simpa using hlx)]
        exact this
end
end Go.Sx
namespace Go.Sx
open Go.RowKit
/-- One cell of a block. -/
def celR (b j : Nat) (v : Value) : Res where
  holds S w := S b ∧ w.cell? ⟨b, j, none⟩ = some v
  lcl S S' w w' h hw hS := ⟨hS b h.1, by
    have := hw b h.1
    have h2 := h.2
    simp only [World.cell?] at h2 ⊢
    rw [this]; exact h2⟩
theorem Sat.cel {w0 w : World} {Rs Rs' : List Res} {b j : Nat} {cs : List Value} {T : TypeId} {v : Value} (h : Sat w0 Rs w) (hp : Pick Rs (boxR b cs T) Rs') (hv : cs[j]? = some v) : Sat w0 [celR b j v] w := by
  obtain ⟨hb, S, hS, hR, hr⟩ := h.pick hp
  have hc := box_cell (w0 := w0) (Rs := boxR b cs T :: Rs') .hd hv w ⟨hb, S, hS, hR, hr⟩
  exact ⟨hb, S, hS, ⟨hR.1, hc⟩, trivial⟩
theorem Sat.celA {w0 w : World} {Rs Rs' : List Res} {b j : Nat} {cs : List Value} {T : TypeId} {v : Value} (h : Sat w0 Rs w) (hp : Pick Rs (boxR b cs T) Rs' := by first | ((with_reducible (repeat (first | exact Pick.hd | apply Pick.tl))); done) | ((repeat (first | exact Pick.hd | apply Pick.tl)); done) | fail) (hv : cs[j]? = some v := by rfl) : Sat w0 [celR b j v] w := h.cel hp hv
theorem y_loadC {P : Program} {n : Nat} {ρ : Env} {dst : Option Nat} {ty : TypeId} {pos : String} {after : Array Edge} {g : Option (Nat × Bool)} {x : Operand} {t : TypeId} {w0 : World} {b j : Nat} {v : Value} (hT : TL P t false 1) (hx : ev n ρ x = .pointer (some ⟨b, j, none⟩)) : Yld P (Sat w0 [celR b j v]) n ρ ⟨dst, .load t x, ty, pos, after, g⟩ v :=
  y_load1 hT hx fun w hw => by
    obtain ⟨S, hR, _⟩ := hw.holds .hd
    exact hR.2
end Go.Sx
namespace Go.Sx
open Go.RowKit
theorem y_lkMv {κ ν : Type} [DecidableEq κ] {P : Program} {n : Nat} {ρ : Env} {w0 : World} {Rs Rs' : List Res} {ty : TypeId} {pos : String} {after : Array Edge} {g : Option (Nat × Bool)} {x y : Operand} {t kt et : TypeId} {b : Nat} {dst : Option Nat}
    {K : κ → Value} {V : ν → Value} {m : List (κ × ν)} {q : κ} {z0 u : ν} [hK : MK P kt K] [ht : IsMap P t kt et] (hv : (mget m q).getD z0 = u) (hz : ZE P et (V z0)) (hx : ev n ρ x = .map (some b)) (hy : ev n ρ y = K q) (hp : Pick Rs (mapR K V b m) Rs') : Yld P (Sat w0 Rs) n ρ ⟨dst, .lookup t x y false, ty, pos, after, g⟩ (V u) := by
  subst hv; exact y_lkM hz hx hy hp
end Go.Sx
namespace Go.Sx
open Go.RowKit
theorem y_mulE {P : Program} {C : World → Prop} {n : Nat} {ρ : Env} {ty : TypeId} {pos : String} {after : Array Edge} {g : Option (Nat × Bool)} {x y : Operand} {t u : TypeId} {dst : Option Nat} {a b c : Int} (hx : ev n ρ x = .int .i64 a) (hy : ev n ρ y = .int .i64 b) (hc : a * b = c) (h : -9223372036854775808 ≤ c ∧ c ≤ 9223372036854775807) : Yld P C n ρ ⟨dst, .binOp .mul t x y u, ty, pos, after, g⟩ (.int .i64 c) := by
  subst hc; exact y_mul hx hy h
end Go.Sx

/- Sx, part T: resources with something hidden; rows of bytes that came of a string; small rules. -/
import Derived.Test.YtbonfpoingibhaaSxS
import Derived.Lib.ConvBytes
set_option linter.unusedVariables false
set_option linter.unusedSimpArgs false
set_option linter.unusedSectionVars false
namespace Go.Sx
open Go.RowKit

/-- Something is hidden. -/
def exR {α : Type} (f : α → List Res) : Res where
  holds S w := ∃ a, SatD (f a) S w
  lcl := fun S S' w w' ⟨a, h⟩ hw hS => ⟨a, h.mono hw hS⟩
section
variable {α : Type} {f : α → List Res} {X : List Res} {w0 w : World}
theorem Sat.ex_out (h : Sat w0 (exR f :: X) w) : ∃ a, Sat w0 (f a ++ X) w := by
  obtain ⟨hb, S, hS, ⟨a, ha⟩, hr⟩ := h
  exact ⟨a, Sat.big_out (L := f a) ⟨hb, S, hS, ha, hr⟩⟩
theorem Sat.ex_in (a : α) (h : Sat w0 (f a ++ X) w) : Sat w0 (exR f :: X) w := by
  obtain ⟨hb, S, hS, ha, hr⟩ := Sat.big_in (L := f a) h
  exact ⟨hb, S, hS, ⟨a, ha⟩, hr⟩
end
theorem el_mk {τ : Type} {P : Program} {t T : TypeId} {E : Enc τ} {bytes : Nat} {z : Value} (hs : P.underlying t = some (.slice T)) (h : (P.info? T).map (fun i => (i.zero, i.size, i.bytes)) = some (some z, E.sz, bytes)) (hz : z.cells.size = E.sz) (h1 : z.cells.toList.all (·.oneCell') = true) : EL P t T E bytes := ⟨hs, by
  obtain ⟨i0, hi, hzz⟩ := Option.map_eq_some_iff.1 h
  simp only [Prod.mk.injEq] at hzz
  obtain ⟨hz0, hz1, hz2⟩ := hzz
  exact ⟨i0, _, hi, hz0, hz1, hz2, hz, h1⟩⟩

/-! ### rows of bytes, perhaps marked behind their end -/
def bytR (T : TypeId) (b cap : Nat) (l : Bs) : Res where
  holds S w := S b ∧ ∃ cur fr, w.heap[b]? = some (.cells cur T fr) ∧ cur.size = cap ∧ (fr = (0, 0) ∨ cap ≤ fr.1) ∧ l.length ≤ cap ∧ cap ≤ maxLen ∧ cur.toList.take l.length = bE.all l
  lcl S S' w w' h hw hS := by
    obtain ⟨h1, cur, fr, h2, h3⟩ := h
    exact ⟨hS b h1, cur, fr, (hw b h1).trans h2, h3⟩
theorem bE_len (l : Bs) : (bE.all l).length = l.length := by rw [bE.all_length]; simp [bE]
theorem Rd.byt {w0 : World} {Rs Rs' : List Res} {T : TypeId} {b cap : Nat} {l : Bs} (hp : Pick Rs (bytR T b cap l) Rs') : Rd (Sat w0 Rs) bE (some ⟨b, 0, none⟩) l := by
  constructor
  intro w hw i x hi
  obtain ⟨S, ⟨_, cur, fr, h2, h3, _, h4, _, h5⟩, _⟩ := hw.holds hp
  refine ⟨_, rfl, fun j v hj => ?_⟩
  have h6 := bE.all_get hi hj
  have e : bE.sz = 1 := rfl
  rw [e, Nat.mul_one] at h6 ⊢
  rw [← h5, List.getElem?_take] at h6
  split at h6
  · rw [add_lit, Nat.zero_add]
    simp only [World.cell?, h2]
    simpa using h6
  · cases h6
section
variable {P : Program} {l : List Oper} {k : Kt} {rest : List Oper} {n : Nat} {ρ : Env} {w w0 : World} {Rs Rs' Rt : List Res}
variable {ty : TypeId} {pos : String} {after : Array Edge} {x y : Operand} {t u T : TypeId} {d b cap : Nat} {xs : Bs}
/-- []byte(s) -/
theorem w_cvB (hS : Sat w0 Rs w) (ht : P.underlying t = some .string) (hu : P.underlying u = some (.slice T)) (hT : P.underlying T = some (.int .u8)) (hx : ev n ρ x = .string (bs xs)) (hm : xs.length ≤ maxLen) (h : ∀ b cap w', Sat w0 (bytR T b cap xs :: Rs) w' → WL P l k rest n (upd ρ d (.slice (some ⟨b, 0, none⟩) xs.length cap)) w') :
    WL P l k (⟨some d, .convert t u x, ty, pos, after, none⟩ :: rest) n ρ w := by
  have hrun := Go.Lib.run_convert_string_bytes (P := P) w t u T (bs xs) ht hu hT
  have hg := grownCap_ge w (bs xs).size 0 T
  have hg2 := grownCap_le_maxLen w (bs xs).size 0 T (by rw [bs_size]; exact hm)
  have hsz : (Go.Lib.bytesCells w T (bs xs)).size = grownCap w (bs xs).size 0 T := by
    have : (bs xs).data.size = (bs xs).size := rfl
    simp [Go.Lib.bytesCells, this]; omega
  rw [bs_size] at hrun hg hg2
  refine wv rfl (v := .slice (some ⟨w.heap.size, 0, none⟩) xs.length (grownCap w xs.length 0 T)) (w' := Go.Lib.bytesWorld w T (bs xs)) (by simp [execOp, hx, hrun]) (h _ _ _ ?_)
  refine hS.fresh [bytR T w.heap.size (grownCap w xs.length 0 T) xs] _ ⟨?_, ?_, ?_, ?_, fun k hk _ => Go.Lib.bytesWorld_at_old w T (bs xs) k hk⟩ ⟨fun k => k = w.heap.size, fun k hk => ?_, ⟨rfl, _, _, Go.Lib.bytesWorld_at_new w T (bs xs), by rw [hsz, bs_size], .inr (by rw [hsz, bs_size]; exact Nat.le_refl _), hg, hg2, ?_⟩, trivial⟩
  · simp [Go.Lib.bytesWorld, World.freeze]; rfl
  · simp [Go.Lib.bytesWorld, World.freeze]
  · simp [Go.Lib.bytesWorld, World.freeze]; rfl
  · rw [Go.Lib.bytesWorld_size]; omega
  · subst hk; rw [Go.Lib.bytesWorld_size]; omega
  · rw [Go.Lib.bytesCells, Array.toList_append, List.take_append_of_le_length (by rw [Array.toList_map, List.length_map, bs_list]; exact Nat.le_refl _), List.take_of_length_le (by rw [Array.toList_map, List.length_map, bs_list]; exact Nat.le_refl _), Array.toList_map, bs_list, bE_all, List.map_map]
    rfl
theorem frz {w : World} {b i cap : Nat} {cur : Array Value} {fr : Nat × Nat} (hb : w.heap[b]? = some (.cells cur T fr)) (hf : fr = (0, 0) ∨ cap ≤ fr.1) (hi : i < cap) : w.frozen? ⟨b, i, none⟩ = false := by
  obtain ⟨lo, hi'⟩ := fr
  simp only [World.frozen?, hb]
  rcases hf with hf | hf
  · cases hf; simp
  · have : ¬ lo ≤ i := by simp at hf; omega
    simp [this]
/-- the cell i of a byte row is written -/
theorem Sat.setByt {i : Nat} {c : UInt8} {ys : Bs} (hS : Sat w0 Rs w) (hs : Swap Rs (bytR T b cap xs) (bytR T b cap ys) Rs') (hi : i < cap) (hl : ys.length ≤ cap) (hy : ∀ cur : List Value, cur.length = cap → cur.take xs.length = bE.all xs → (cur.set i (.int .u8 c.toNat)).take ys.length = bE.all ys) :
    (store ⟨b, i, none⟩ (.int .u8 c.toNat)).run P w = .ok () (w.setCell ⟨b, i, none⟩ (.int .u8 c.toNat)) ∧ Sat w0 Rs' (w.setCell ⟨b, i, none⟩ (.int .u8 c.toNat)) := by
  obtain ⟨S, ⟨hb, cur, fr, h1, h2, h3, h4, h5, h6⟩, hdom, hstep⟩ := hS.turn hs
  have hc : w.cell? ⟨b, i, none⟩ = some cur[i] := by simp [World.cell?, h1, h2, hi]
  refine ⟨by simp [store, Sem.run, hc, frz h1 h3 hi], hstep S _ ⟨rfl, rfl, rfl, by simp [World.setCell], fun k _ hk => Below.heap_setCell _ _ _ _ (fun e => hk (by rw [show k = b from e]; exact hb))⟩ (fun k hk => .inl hk) ⟨hb, cur.setIfInBounds i (.int .u8 c.toNat), fr, by simp [World.setCell, Array.getElem?_modify, h1], by simpa using h2, h3, hl, h5, ?_⟩⟩
  rw [Array.toList_setIfInBounds]
  exact hy _ h2 h6
/-- b[i] = c -/
theorem w_stB {i : Nat} {c : UInt8} (hS : Sat w0 Rs w) [hT : TL P t false 1] (hx : ev n ρ x = .pointer (some ⟨b, i, none⟩)) (hy : ev n ρ y = .int .u8 c.toNat) (hi : i < xs.length) (hs : Swap Rs (bytR T b cap xs) (bytR T b cap (xs.set i c)) Rs') (h : ∀ w', Sat w0 Rs' w' → WL P l k rest n ρ w') :
    WL P l k (⟨none, .store t x y, ty, pos, after, none⟩ :: rest) n ρ w := by
  obtain ⟨Rq, hp, _⟩ := hs.picks
  obtain ⟨S, ⟨_, cur, fr, _, _, _, hle, _⟩, _⟩ := hS.holds hp
  obtain ⟨h1, h2⟩ := hS.setByt (P := P) (i := i) (c := c) hs (by omega) (by simpa using hle) (fun cur hc ht => by
    rw [List.length_set, List.take_set, ht]
    have := bE.all_set xs i 0 hi (.int .u8 c.toNat) c (by simp [bE]) (by decide)
    rw [this, show bE.sz = 1 from rfl, Nat.mul_one, Nat.add_zero])
  refine wk rfl (w' := w.setCell ⟨b, i, none⟩ (.int .u8 c.toNat)) ?_ (h _ h2)
  simp [execOp, hx, hy, Instr.storeAt, Instr.sureAddr, storeVar, hT.sizeOf, Value.cells, storeCells, add_zero, h1]
/-- append(b, c) -/
theorem w_apB {B : Addr} {m c' bytes : Nat} {c : UInt8} {R2 : Nat → Nat → List Res} (hS : Sat w0 Rs w) [hE : EL P t T bE bytes] (hx : ev n ρ x = .slice (some ⟨b, 0, none⟩) xs.length cap) (hy : ev n ρ y = .slice (some B) 1 c') (hR : Rd (Sat w0 Rs) bE (some B) [c]) (hp : Pick Rs (bytR T b cap xs) Rt) (hl : (xs.length + 1) * bytes ≤ 140737488355328) (hl2 : xs.length + 1 ≤ 140737488355328)
    (hs : ∀ b' cap', Swap Rs (bytR T b cap xs) (bytR T b' cap' (xs ++ [c])) (R2 b' cap')) (h : ∀ b' cap' w', Sat w0 (R2 b' cap') w' → WL P l k rest n (upd ρ d (.slice (some ⟨b', 0, none⟩) (xs ++ [c]).length cap')) w') :
    WL P l k (⟨some d, .call { callee := .builtin .append, args := #[x, y], argTypes := #[t, t] }, ty, pos, after, none⟩ :: rest) n ρ w := by
  obtain ⟨i, z, hi, hz, hsz, hby, hzs, hz1⟩ := hE.el
  have e1 : bE.sz = 1 := rfl
  rw [e1] at hsz hzs
  have hnew : ∀ j v, ([.int .u8 c.toNat] : List Value)[j]? = some v → w.cell? (B.add j) = some v := by
    have := hR.cells hS
    rwa [show bE.all [c] = [.int .u8 c.toNat] from rfl] at this
  by_cases hroom : xs.length + 1 ≤ cap
  · obtain ⟨h1, h2⟩ := hS.setByt (P := P) (c := c) (i := xs.length) (ys := xs ++ [c]) (hs b cap) (by omega) (by simp; omega) (fun cur hc ht => by
      rw [List.length_append, List.length_singleton, List.take_add_one, List.take_set_of_le (by omega), ht, bE.all_append]
      simp [show xs.length < cur.length by omega, bE, Enc.all])
    refine wv rfl (v := .slice (some ⟨b, 0, none⟩) (xs ++ [c]).length cap) (w' := w.setCell ⟨b, xs.length, none⟩ (.int .u8 c.toNat)) ?_ (h b cap _ h2)
    have hf := run_firstCells_some (P := P) w 1 1 B 1 c' [.int .u8 c.toNat] (by simp) hnew
    simp [execOp, resolve, invoke, builtin, hx, hy, Builtin.append_, run_underlying hE.sl, sizeOf, typeInfo, hi, Builtin.lenOf, hroom, hf, hsz, storeCells, add_lit, add_zero, h1]
  · obtain ⟨S, ⟨hb, cur, fr, g1, g2, g3, g4, g5, g6⟩, _⟩ := hS.holds hp
    have hold : ∀ j v, (bE.all xs)[j]? = some v → w.cell? ((⟨b, 0, none⟩ : Addr).add j) = some v := (Rd.byt hp).cells hS
    have hrun := run_append_grow (P := P) w t ty T i z hE.sl hi hz ⟨b, 0, none⟩ xs.length cap (bE.all xs) (by rw [bE_len, hsz, Nat.mul_one]) hold B 1 c' [.int .u8 c.toNat] (by simp [hsz]) hnew (by omega) (by omega) (growslice_fits (by omega) (by rw [hby]; exact hl))
    have hge := grownCap_ge w (xs.length + 1) cap T
    have hle := grownCap_le_maxLen w (xs.length + 1) cap T (by simp only [maxLen]; omega)
    refine wv rfl (v := .slice (some ⟨w.heap.size, 0, none⟩) (xs ++ [c]).length (grownCap w (xs.length + 1) cap T)) (w' := w.drew.alloc (.cells ((bE.all xs).toArray ++ ([.int .u8 c.toNat] : List Value).toArray ++ Builtin.zeroCells z.cells (grownCap w (xs.length + 1) cap T - (xs.length + 1))) T)) (by simp [-World.alloc_eq, -World.drew_eq, execOp, resolve, invoke, builtin, hx, hy, hrun]) (h w.heap.size _ _ ?_)
    obtain ⟨S, _, _, hstep⟩ := hS.turn (hs w.heap.size (grownCap w (xs.length + 1) cap T))
    have hdr : ∀ o, (w.drew.alloc o).heap.size = w.heap.size + 1 := fun o => by simp
    refine hstep (fun k => k = w.heap.size) _ ⟨rfl, rfl, rfl, by rw [hdr]; omega, fun k hk _ => Below.heap_alloc w.drew _ k hk⟩ (fun k hk => .inr (by subst hk; rw [hdr]; omega)) ⟨rfl, _, _, heap_alloc_new w.drew _, ?_, .inl rfl, by simpa using hge, hle, ?_⟩
    · simp [size_zeroCells, hzs, bE_len]; omega
    · simp only [Array.toList_append, List.toList_toArray, List.length_append, List.length_singleton]
      rw [List.take_append_of_le_length (by simp [bE_len]), List.take_of_length_le (by simp [bE_len]), bE.all_append]
      rfl
end
section
variable {P : Program} {C : World → Prop} {n : Nat} {ρ : Env} {dst : Option Nat} {ty : TypeId} {pos : String} {after : Array Edge} {g : Option (Nat × Bool)} {x y z : Operand} {t u tt : TypeId} {l l' : Bs}
/-- x[lo:], not at its end -/
theorem y_slLs {e : TypeId} {agg : Bool} {sz m c kk : Nat} {ad : Addr} {lo : Int} {k : IntKind} (hu : P.underlying t = some (.slice e)) (hT : TL P e agg sz) (hx : ev n ρ x = .slice (some ad) m c) (hy : ev n ρ y = .int k lo) (h0 : 0 ≤ lo) (h1 : lo ≤ m) (hc : lo < c) (hk : lo.toNat * sz = kk) :
    Yld P C n ρ ⟨dst, .slice t x (some y) none none, ty, pos, after, g⟩ (.slice (some (ad.add kk)) (m - lo.toNat) (c - lo.toNat)) := by
  have := y_slL (P := P) (C := C) (dst := dst) (ty := ty) (pos := pos) (after := after) (g := g) hu hT hx hy h0 h1
  rw [if_neg (by omega), Option.map_some, hk] at this
  exact this
/-- s[i] -/
theorem y_ixS {k : IntKind} {i : Int} {c : UInt8} (ht : P.underlying t = some .string) (hx : ev n ρ x = .string (bs l)) (hy : ev n ρ y = .int k i) (h0 : 0 ≤ i) (hc : l[i.toNat]? = some c) : Yld P C n ρ ⟨dst, .index t x y, ty, pos, after, g⟩ (.int .u8 c.toNat) := by
  refine ⟨fun w _ => ?_⟩
  have e : (bs l)[i.toNat]? = some c := by
    have h1 : (bs l).data.toList[i.toNat]? = some c := by rw [bs_list]; exact hc
    obtain ⟨hlt, he⟩ := List.getElem?_eq_some_iff.1 h1
    have hlt' : i.toNat < (bs l).size := by rw [bs_size, ← bs_list l]; exact hlt
    rw [getElem?_pos (bs l) i.toNat hlt']
    congr 1
  simp [execOp, hx, hy, Instr.index, asIntOf, run_underlying ht, h0, e]
end
end Go.Sx

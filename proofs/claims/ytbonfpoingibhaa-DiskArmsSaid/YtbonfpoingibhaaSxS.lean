/- Sx, part S: strings as lists of bytes; rows of bytes. -/
import Derived.Test.YtbonfpoingibhaaSxQ
import Derived.Laws.BytesString
import Derived.Laws.CopyRow
set_option linter.unusedVariables false
set_option linter.unusedSimpArgs false
set_option linter.unusedSectionVars false
namespace Go.Sx
open Go.RowKit

abbrev Bs := List UInt8
def bs (l : Bs) : ByteArray := ⟨l.toArray⟩
theorem bs_size (l : Bs) : (bs l).size = l.length := by simp [bs, ByteArray.size]
theorem bs_inj {l l' : Bs} : bs l = bs l' ↔ l = l' := by
  constructor
  · intro h
    have := congrArg (fun s : ByteArray => s.data.toList) h
    simpa [bs] using this
  · rintro rfl; rfl
theorem bs_of (s : ByteArray) : ∃ l, s = bs l := ⟨s.data.toList, by cases s; rfl⟩
theorem bs_list (l : Bs) : (bs l).data.toList = l := by simp [bs]
theorem bs_extract (l : Bs) (a b : Nat) : (bs l).extract a b = bs ((l.take b).drop a) := by
  have h : ((bs l).extract a b).data = (bs ((l.take b).drop a)).data := by
    rw [ByteArray.data_extract]
    simp only [bs, List.extract_toArray]
    rw [List.extract_eq_take_drop, List.drop_take]
  cases h1 : (bs l).extract a b
  cases h2 : bs ((l.take b).drop a)
  rw [h1, h2] at h
  simp only at h
  rw [h]
theorem bs_nil : bs [] = ByteArray.empty := rfl
theorem bs_foldl (l : Bs) : ∀ s : ByteArray, (l.map fun x => (x.toNat : Int)).foldl (fun r n => r.push (UInt8.ofNat n.toNat)) s = ⟨s.data ++ l.toArray⟩ := by
  induction l with
  | nil => intro s; cases s; simp
  | cons x l ih =>
    intro s
    rw [List.map_cons, List.foldl_cons, ih]
    cases s
    simp [ByteArray.push]
attribute [irreducible] bs
def bE : Enc UInt8 := { enc := fun x => [.int .u8 x.toNat], sz := 1, len := fun _ => rfl, one := fun x v hv => by simp at hv; subst hv; rfl, pos := by decide }
theorem bE_all (l : Bs) : bE.all l = (l.map fun x => (x.toNat : Int)).map (Value.int .u8) := by
  induction l with
  | nil => rfl
  | cons x l ih => rw [bE.all_cons, ih]; rfl

section ops
variable {P : Program} {C : World → Prop} {n : Nat} {ρ : Env} {dst : Option Nat} {ty : TypeId} {pos : String} {after : Array Edge} {g : Option (Nat × Bool)} {x y z : Operand} {t u tt : TypeId} {l l' : Bs}
theorem y_lensB (ht : P.underlying tt = some .string) (hx : ev n ρ x = .string (bs l)) : Yld P C n ρ ⟨dst, .call { callee := .builtin .len, args := #[x], argTypes := #[tt] }, ty, pos, after, g⟩ (.int .i64 l.length) := by
  rw [← bs_size l]; exact y_lens ht hx
theorem y_eqsB (hx : ev n ρ x = .string (bs l)) (hy : ev n ρ y = .string (bs l')) : Yld P C n ρ ⟨dst, .binOp .eql t x y u, ty, pos, after, g⟩ (.bool (decide (l = l'))) := by
  have := y_eqs (P := P) (C := C) (dst := dst) (ty := ty) (pos := pos) (after := after) (g := g) (t := t) (u := u) hx hy
  rwa [show decide (bs l = bs l') = decide (l = l') from decide_eq_decide.2 bs_inj] at this
theorem y_nesB (hx : ev n ρ x = .string (bs l)) (hy : ev n ρ y = .string (bs l')) : Yld P C n ρ ⟨dst, .binOp .neq t x y u, ty, pos, after, g⟩ (.bool (!decide (l = l'))) := by
  have := y_nes (P := P) (C := C) (dst := dst) (ty := ty) (pos := pos) (after := after) (g := g) (t := t) (u := u) hx hy
  rwa [show decide (bs l = bs l') = decide (l = l') from decide_eq_decide.2 bs_inj] at this
/-- against the empty string -/
theorem y_eqs0 (hx : ev n ρ x = .string (bs l)) (hy : ev n ρ y = .string ⟨#[]⟩) : Yld P C n ρ ⟨dst, .binOp .eql t x y u, ty, pos, after, g⟩ (.bool (decide (l = []))) := y_eqsB hx (by rw [hy]; exact congrArg Value.string bs_nil.symm)
theorem y_nes0 (hx : ev n ρ x = .string (bs l)) (hy : ev n ρ y = .string ⟨#[]⟩) : Yld P C n ρ ⟨dst, .binOp .neq t x y u, ty, pos, after, g⟩ (.bool (!decide (l = []))) := y_nesB hx (by rw [hy]; exact congrArg Value.string bs_nil.symm)
/-- x[lo:] -/
theorem y_slsL {k : IntKind} {lo : Int} (ht : P.underlying t = some .string) (hx : ev n ρ x = .string (bs l)) (hy : ev n ρ y = .int k lo) (h0 : 0 ≤ lo) (h1 : lo ≤ l.length) : Yld P C n ρ ⟨dst, .slice t x (some y) none none, ty, pos, after, g⟩ (.string (bs (l.drop lo.toNat))) := by
  refine ⟨fun w _ => ?_⟩
  have e : (bs l).extract lo.toNat (bs l).size = bs (l.drop lo.toNat) := by rw [bs_extract, bs_size, List.take_length]
  have h1' : lo ≤ (bs l).size := by rw [bs_size]; exact h1
  simp [execOp, hx, hy, Instr.sliceAt, Instr.slice, Instr.sliceBounds, Instr.sliceBound, asIntOf, run_underlying ht, h0, h1', e]
/-- x[:hi] -/
theorem y_slsH {k : IntKind} {hi : Int} (ht : P.underlying t = some .string) (hx : ev n ρ x = .string (bs l)) (hy : ev n ρ y = .int k hi) (h0 : 0 ≤ hi) (h1 : hi ≤ l.length) : Yld P C n ρ ⟨dst, .slice t x none (some y) none, ty, pos, after, g⟩ (.string (bs (l.take hi.toNat))) := by
  refine ⟨fun w _ => ?_⟩
  have e : (bs l).extract 0 hi.toNat = bs (l.take hi.toNat) := by rw [bs_extract, List.drop_zero]
  have h1' : hi ≤ (bs l).size := by rw [bs_size]; exact h1
  simp [execOp, hx, hy, Instr.sliceAt, Instr.slice, Instr.sliceBounds, Instr.sliceBound, asIntOf, run_underlying ht, h0, h1', e]
/-- x[lo:hi] -/
theorem y_slsLH {k k' : IntKind} {lo hi : Int} (ht : P.underlying t = some .string) (hx : ev n ρ x = .string (bs l)) (hy : ev n ρ y = .int k lo) (hz : ev n ρ z = .int k' hi) (h0 : 0 ≤ lo) (h1 : lo ≤ hi) (h2 : hi ≤ l.length) : Yld P C n ρ ⟨dst, .slice t x (some y) (some z) none, ty, pos, after, g⟩ (.string (bs ((l.take hi.toNat).drop lo.toNat))) := by
  refine ⟨fun w _ => ?_⟩
  have e := bs_extract l lo.toNat hi.toNat
  have h2' : hi ≤ (bs l).size := by rw [bs_size]; exact h2
  have h3 : 0 ≤ hi := by omega
  have e3 : max hi 0 = hi := by omega
  simp [execOp, hx, hy, hz, Instr.sliceAt, Instr.slice, Instr.sliceBounds, Instr.sliceBound, asIntOf, run_underlying ht, h0, h1, h2', h3, e, e3]
/-- string(bytes) -/
theorem y_cvBS {e : TypeId} {A : Option Addr} {c m : Nat} (hs : P.underlying t = some (.slice e)) (he : P.underlying e = some (.int .u8)) (hd : P.underlying u = some .string) (hx : ev n ρ x = .slice A m c) (hR : Rd C bE A l) (hm : m = l.length) : Yld P C n ρ ⟨dst, .convert t u x, ty, pos, after, g⟩ (.string (bs l)) := by
  subst hm
  refine ⟨fun w hw => ?_⟩
  have key : (Conv.bytesToString (.slice A l.length c)).run P w = .ok (.string (bs l)) w := by
    rcases Nat.eq_zero_or_pos l.length with h0 | h0
    · obtain rfl : l = [] := List.eq_nil_of_length_eq_zero h0
      cases A with
      | none => simp [Conv.bytesToString, bs_nil]
      | some a => simp [Conv.bytesToString, bs_nil, loadCells, loadCellsFrom]
    · obtain ⟨a, rfl⟩ := hR.addr hw h0
      have h1 := run_loadCells_list (P := P) w a (bE.all l) (hR.cells hw)
      rw [bE_all] at h1
      simp only [List.length_map] at h1
      rw [Go.run_bytesToString w a l.length c _ h1, bs_foldl]
      congr 2
      unfold bs; simp
  simp [execOp, hx, convert, run_underlying hs, run_underlying hd, run_underlying he, key]
/-- a field of a struct -/
theorem y_fldA {i off : Nat} {T : TypeId} {vs : List Value} {v : Value} {fs : Array Field} (hx : ev n ρ x = .agg vs.toArray) (hu : P.underlying t = some (.struct fs)) (hf : (fs[i]?).map (fun f => (f.type, f.offset)) = some (T, off)) (hv : vs[off]? = some v) (hT : TL P T false 1) : Yld P C n ρ ⟨dst, .field t x i, ty, pos, after, g⟩ v := by
  refine ⟨fun w _ => ?_⟩
  obtain ⟨f, hf1, hf2⟩ := Option.map_eq_some_iff.1 hf
  simp only [Prod.mk.injEq] at hf2
  obtain ⟨rfl, rfl⟩ := hf2
  simp [execOp, hx, Instr.field, asAgg, run_underlying hu, hf1, part, hT.isAgg, hv]
theorem y_minI {k : IntKind} {a b : Int} {ts : Array TypeId} (hx : ev n ρ x = .int k a) (hy : ev n ρ y = .int k b) : Yld P C n ρ ⟨dst, .call { callee := .builtin .min, args := #[x, y], argTypes := ts }, ty, pos, after, g⟩ (.int k (min a b)) := y_min hx hy (by split <;> omega)
theorem y_maxI {k : IntKind} {a b : Int} {ts : Array TypeId} (hx : ev n ρ x = .int k a) (hy : ev n ρ y = .int k b) : Yld P C n ρ ⟨dst, .call { callee := .builtin .max, args := #[x, y], argTypes := ts }, ty, pos, after, g⟩ (.int k (max a b)) := y_max hx hy (by split <;> omega)
end ops

section
variable {P : Program} {l : List Oper} {k : Kt} {rest : List Oper} {n : Nat} {ρ : Env} {w w0 : World} {Rs Rs' Rt : List Res}
variable {ty : TypeId} {pos : String} {after : Array Edge} {x y : Operand} {t u T : TypeId} {d : Nat}
/-- copy(row at kk, string) -/
theorem w_cpS {ad : Addr} {cap kk m c : Nat} {xs ts : Bs} (hS : Sat w0 Rs w) (hu : P.underlying t = some (.slice T)) (hT : TL P T false 1) (hx : ev n ρ x = .slice (some (ad.add kk)) m c) (hy : ev n ρ y = .string (bs ts))
    (hs : Swap Rs (rowR bE T (some ad) cap xs) (rowR bE T (some ad) cap (xs.take kk ++ ts ++ xs.drop (kk + ts.length))) Rs') (hm : ts.length ≤ m) (hfit : kk + ts.length ≤ xs.length) (h : ∀ w', Sat w0 Rs' w' → WL P l k rest n (upd ρ d (.int .i64 ts.length)) w') :
    WL P l k (⟨some d, .call { callee := .builtin .copy, args := #[x, y], argTypes := #[t, u] }, ty, pos, after, none⟩ :: rest) n ρ w := by
  obtain ⟨S, ⟨ho, hA⟩, hdom, hstep⟩ := hS.turn hs
  rcases ho.2 with ⟨hv, _⟩ | ⟨gb, cp, cur, hv, _, hgb, q1, q2, q3, q4⟩
  · injection hv with h0; cases h0
  · injection hv with hA0 _ hc0
    obtain rfl : ad = ⟨gb, 0, none⟩ := by injection hA0
    subst hc0
    have e1 : (bE.all ts).length = ts.length := by rw [bE.all_length]; simp [bE]
    have e1' : bE.sz = 1 := rfl
    rw [e1', Nat.mul_one] at q3 q4
    have hfit2 : kk + 0 + (bE.all ts).length ≤ cur.size := by rw [e1, q3]; omega
    have hst := run_storeCells_at P gb kk T (bE.all ts) 0 cur w hgb hfit2 (bE.all_one ts)
    rw [e1] at hst
    simp only [Nat.add_zero] at hst
    have hmin : Nat.min ts.length m = ts.length := Nat.min_eq_left hm
    have hfc : (Builtin.firstCells 1 ts.length (.string (bs ts))).run P w = .ok (bE.all ts).toArray w := by
      have : ((bs ts).extract 0 ts.length).data.map (fun b => Value.int .u8 b.toNat) = (bE.all ts).toArray := by
        rw [bs_extract, List.take_length, List.drop_zero, bE_all]
        unfold bs
        simp
      simp only [Builtin.firstCells, this, Sem.run_pure]
    have hrun : (Builtin.copy_ #[t, u] ty #[.slice (some ((⟨gb, 0, none⟩ : Addr).add kk)) m c, .string (bs ts)]).run P w = .ok (.int .i64 ts.length) (w.setRow gb (cur.toList.take kk ++ bE.all ts ++ cur.toList.drop (kk + ts.length)).toArray) := by
      rw [add_lit, Nat.zero_add]
      simp only [Builtin.copy_, List.getElem?_toArray, List.getElem?_cons_zero, List.getElem?_cons_succ, Sem.run_bind, run_underlying hu, Result.andThen, Builtin.lenOf, Sem.run_pure, bs_size, hmin, hT.sizeOf, hfc, List.toList_toArray, hst, goInt]
    refine wv rfl (w' := w.setRow gb (cur.toList.take kk ++ bE.all ts ++ cur.toList.drop (kk + ts.length)).toArray) (v := .int .i64 ts.length) (by simp only [execOp, resolve, invoke, builtin, List.map_toArray, List.map_cons, List.map_nil, hx, hy, Sem.run_bind, Sem.run_pure, Result.andThen, hrun]) (h _ (hstep S _ ⟨rfl, rfl, rfl, by simp, fun k _ hk => setRow_other w gb k _ (fun e => hk (by rw [e]; exact hA _ rfl))⟩ (fun k hk => .inl hk) ⟨⟨bE.all_length _, .inr ⟨gb, cap, _, ?_, Nat.zero_le _, setRow_heap w gb cur _ T _ hgb, ?_, q2, ?_, ?_⟩⟩, hA⟩))
    · rfl
    · simp; omega
    · rw [e1', Nat.mul_one]
      simp only [List.size_toArray, List.length_append, List.length_take, List.length_drop, Array.length_toList, e1]; omega
    · rw [e1', Nat.mul_one]
      have hlen : (xs.take kk ++ ts ++ xs.drop (kk + ts.length)).length = xs.length := by simp; omega
      have hx4 : bE.all xs = cur.toList.take xs.length := q4.symm
      rw [List.toList_toArray, hlen, bE.all_append, bE.all_append]
      have t1 : bE.all (xs.take kk) = cur.toList.take kk := by
        have := bE.all_take xs kk
        rw [e1', Nat.mul_one] at this
        rw [← this, hx4, List.take_take, Nat.min_eq_left (by omega)]
      have t2 : bE.all (xs.drop (kk + ts.length)) = (cur.toList.take xs.length).drop (kk + ts.length) := by
        have := bE.all_drop xs (kk + ts.length)
        rw [e1', Nat.mul_one] at this
        rw [← this, hx4]
      rw [t1, t2, List.drop_take]
      have hlt : (cur.toList.take kk ++ bE.all ts).length = kk + ts.length := by
        rw [List.length_append, e1, List.length_take, Array.length_toList]; omega
      rw [List.take_append, List.take_of_length_le (by rw [hlt]; omega), hlt]
end
end Go.Sx

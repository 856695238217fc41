/- Sx, part P: maps that are owned; ranges over them. -/
import Derived.Test.YtbonfpoingibhaaSxO
import Derived.Maps.RangeRun
import Derived.Laws.Externs
import Derived.MapKept
import Derived.Carry
import GoSem.Extern.MapsClone
set_option linter.unusedVariables false
set_option linter.unusedSimpArgs false
set_option linter.unusedSectionVars false
namespace Go.Sx
open Go.RowKit
open Go.ChangeMaps (setBlock)
variable {κ ν : Type} [DecidableEq κ]

/-! ### lists of pairs as maps -/
def mget (m : List (κ × ν)) (k : κ) : Option ν := (m.find? (fun x => decide (x.1 = k))).map (·.2)
def mput (m : List (κ × ν)) (k : κ) (v : ν) : List (κ × ν) := if k ∈ m.map (·.1) then m.map (fun x => if x.1 = k then (k, v) else x) else m ++ [(k, v)]
def mdel (m : List (κ × ν)) (k : κ) : List (κ × ν) := m.filter (fun x => !decide (x.1 = k))
theorem mget_none {m : List (κ × ν)} {k : κ} (h : k ∉ m.map (·.1)) : mget m k = none := by
  rw [mget, Option.map_eq_none_iff, List.find?_eq_none]
  intro x hx
  simp only [decide_eq_true_eq]
  rintro rfl
  exact h (List.mem_map.2 ⟨x, hx, rfl⟩)
theorem mget_some {m : List (κ × ν)} {k : κ} {v : ν} (hn : (m.map (·.1)).Nodup) (h : (k, v) ∈ m) : mget m k = some v := by
  induction m with
  | nil => cases h
  | cons x m ih =>
    simp only [List.map_cons, List.nodup_cons] at hn
    rcases List.mem_cons.1 h with rfl | h
    · simp [mget]
    · have hx : ¬ x.1 = k := by
        rintro rfl
        exact hn.1 (List.mem_map.2 ⟨_, h, rfl⟩)
      rw [← ih hn.2 h]
      simp [mget, hx]
theorem mget_mem {m : List (κ × ν)} {k : κ} {v : ν} (h : mget m k = some v) : (k, v) ∈ m := by
  obtain ⟨x, hx, rfl⟩ := Option.map_eq_some_iff.1 h
  have h1 := List.find?_some hx
  have h2 := List.mem_of_find?_eq_some hx
  simp only [decide_eq_true_eq] at h1
  subst h1
  exact h2
theorem mget_isSome {m : List (κ × ν)} {k : κ} : (mget m k).isSome = true ↔ k ∈ m.map (·.1) := by
  rw [mget, Option.isSome_map, List.find?_isSome]
  simp only [decide_eq_true_eq, List.mem_map]
theorem mput_old {m : List (κ × ν)} {k : κ} {v : ν} (h : k ∈ m.map (·.1)) : mput m k v = m.map (fun x => if x.1 = k then (k, v) else x) := if_pos h
theorem mput_new {m : List (κ × ν)} {k : κ} {v : ν} (h : k ∉ m.map (·.1)) : mput m k v = m ++ [(k, v)] := if_neg h
theorem mput_keys {m : List (κ × ν)} {k : κ} {v : ν} (h : k ∈ m.map (·.1)) : (mput m k v).map (·.1) = m.map (·.1) := by
  rw [mput_old h, List.map_map]
  apply List.map_congr_left
  intro x hx
  show (if x.1 = k then (k, v) else x).1 = x.1
  split
  · rename_i e; exact e.symm
  · rfl
theorem mput_nodup {m : List (κ × ν)} {k : κ} {v : ν} (hn : (m.map (·.1)).Nodup) : ((mput m k v).map (·.1)).Nodup := by
  by_cases h : k ∈ m.map (·.1)
  · rw [mput_keys h]; exact hn
  · rw [mput_new h, List.map_append, List.nodup_append]
    refine ⟨hn, by simp, fun a ha b hb => ?_⟩
    simp at hb
    subst hb
    rintro rfl
    exact h ha
theorem mget_put {m : List (κ × ν)} {k k' : κ} {v : ν} : mget (mput m k v) k' = if k' = k then some v else mget m k' := by
  by_cases h : k ∈ m.map (·.1)
  · rw [mput_old h]
    induction m with
    | nil => simp at h
    | cons x m ih =>
      by_cases hx : x.1 = k
      · subst hx
        by_cases hk : k' = x.1
        · subst hk; simp [mget]
        · simp only [if_neg hk, List.map_cons, if_true]
          have e1 : mget ((x.1, v) :: m.map (fun y => if y.1 = x.1 then (x.1, v) else y)) k' = mget (m.map (fun y => if y.1 = x.1 then (x.1, v) else y)) k' := by simp [mget, Ne.symm hk]
          have e2 : mget (x :: m) k' = mget m k' := by simp [mget, Ne.symm hk]
          rw [e1, e2]
          by_cases hm : x.1 ∈ m.map (·.1)
          · have := ih hm; rwa [if_neg hk] at this
          · have : m.map (fun y => if y.1 = x.1 then (x.1, v) else y) = m := by
              conv => rhs; rw [← List.map_id m]
              apply List.map_congr_left
              intro y hy
              have : ¬ y.1 = x.1 := fun e => hm (List.mem_map.2 ⟨y, hy, e⟩)
              simp [this]
            rw [this]
      · have hm : k ∈ m.map (·.1) := by
          simp only [List.map_cons, List.mem_cons] at h
          rcases h with h | h
          · exact absurd h.symm hx
          · exact h
        have ih := ih hm
        simp only [List.map_cons, if_neg hx]
        by_cases hk : x.1 = k'
        · subst hk
          simp [mget, hx]
        · have e1 : mget (x :: m.map (fun y => if y.1 = k then (k, v) else y)) k' = mget (m.map (fun y => if y.1 = k then (k, v) else y)) k' := by simp [mget, hk]
          have e2 : mget (x :: m) k' = mget m k' := by simp [mget, hk]
          rw [e1, e2, ih]
  · rw [mput_new h]
    by_cases hk : k' = k
    · subst hk
      rw [if_pos rfl]
      have : m.find? (fun x => decide (x.1 = k')) = none := by
        have := mget_none h
        rwa [mget, Option.map_eq_none_iff] at this
      simp [mget, List.find?_append, this]
    · rw [if_neg hk]
      simp only [mget, List.find?_append]
      cases m.find? (fun x => decide (x.1 = k')) <;> simp [Ne.symm hk]

/-! ### keys -/
class MK (P : Program) (t : TypeId) (K : κ → Value) : Prop where
  check : ∀ (w : World) (em : Bool) (x : κ), (Instr.checkKey em 10000 t (K x)).run P w = .ok () w
  find : ∀ (w : World) (x : κ) (es : List MapEntry) (ks : List κ), es.map (·.key) = ks.map K →
    (x ∉ ks ∧ (Instr.findKey t (K x) es).run P w = .ok none w) ∨ ∃ j e, ks[j]? = some x ∧ es[j]? = some e ∧ (Instr.findKey t (K x) es).run P w = .ok (some (j, e.val)) w
  stays : ∀ (w : World) (x : κ), (Instr.keyThatStays (K x) (K x)).run P w = .ok (K x) w
/-- whole numbers as keys -/
def intK (k : IntKind) (x : Int) : Value := .int k x
theorem findNow_int {d : TypeDesc} {q : IntKind} (hd : d = .int q) (x : Int) : ∀ (es : List MapEntry) (ks : List Int) (i : Nat), es.map (·.key) = ks.map (intK q) →
    (x ∉ ks ∧ Instr.findNow d (intK q x) es i = some none) ∨ ∃ j e, ks[j]? = some x ∧ es[j]? = some e ∧ Instr.findNow d (intK q x) es i = some (some (i + j, e.val)) := by
  subst hd
  intro es
  induction es with
  | nil =>
    intro ks i h
    obtain rfl : ks = [] := by cases ks; rfl; simp at h
    exact .inl ⟨by simp, rfl⟩
  | cons e es ih =>
    intro ks i h
    cases ks with
    | nil => simp at h
    | cons y ks =>
      simp only [List.map_cons, List.cons.injEq] at h
      obtain ⟨h1, h2⟩ := h
      unfold Instr.findNow
      rw [h1]
      by_cases hxy : x = y
      · subst hxy
        exact .inr ⟨0, e, rfl, rfl, by simp [Instr.sameNow, intK]⟩
      · rcases ih ks (i + 1) h2 with ⟨h3, h4⟩ | ⟨j, e', h3, h4, h5⟩
        · refine .inl ⟨by simp [hxy, h3], ?_⟩
          simp only [Instr.sameNow, intK, if_true, beq_eq_false_iff_ne.2 hxy]
          exact h4
        · refine .inr ⟨j + 1, e', by simpa using h3, by simpa using h4, ?_⟩
          simp only [Instr.sameNow, intK, if_true, beq_eq_false_iff_ne.2 hxy]
          rw [show i + (j + 1) = i + 1 + j by omega]
          exact h5
theorem mk_int {P : Program} {t : TypeId} {q : IntKind} (ht : P.underlying t = some (.int q)) : MK P t (intK q) where
  check w em x := by
    show (Instr.checkKey em (9999 + 1) t (intK q x)).run P w = _
    unfold Instr.checkKey
    simp [run_underlying ht, intK]
  find w x es ks h := by
    have hf := findNow_int (d := .int q) rfl x es ks 0 h
    unfold Instr.findKey
    rcases hf with ⟨h1, h2⟩ | ⟨j, e, h1, h2, h3⟩
    · exact .inl ⟨h1, by simp [run_underlying ht, h2]⟩
    · exact .inr ⟨j, e, h1, h2, by simp [run_underlying ht, h3]⟩
  stays w x := by simp [Instr.keyThatStays, Instr.sameBits, intK]
/-- structs as keys, where sameness is known -/
theorem findAsking_of {P : Program} {t : TypeId} {K : κ → Value} (he : ∀ (w : World) (x y : κ), (Op.equal t (K x) (K y)).run P w = .ok (decide (x = y)) w) (w : World) (x : κ) : ∀ (es : List MapEntry) (ks : List κ) (i : Nat), es.map (·.key) = ks.map K →
    (x ∉ ks ∧ (Instr.findAsking t (K x) es i).run P w = .ok none w) ∨ ∃ j e, ks[j]? = some x ∧ es[j]? = some e ∧ (Instr.findAsking t (K x) es i).run P w = .ok (some (i + j, e.val)) w := by
  intro es
  induction es with
  | nil =>
    intro ks i h
    obtain rfl : ks = [] := by cases ks; rfl; simp at h
    exact .inl ⟨by simp, by simp [Instr.findAsking]⟩
  | cons e es ih =>
    intro ks i h
    cases ks with
    | nil => simp at h
    | cons y ks =>
      simp only [List.map_cons, List.cons.injEq] at h
      obtain ⟨h1, h2⟩ := h
      by_cases hxy : x = y
      · subst hxy
        exact .inr ⟨0, e, rfl, rfl, by simp [Instr.findAsking, h1, he]⟩
      · rcases ih ks (i + 1) h2 with ⟨h3, h4⟩ | ⟨j, e', h3, h4, h5⟩
        · exact .inl ⟨by simp [hxy, h3], by simp [Instr.findAsking, h1, he, hxy, h4]⟩
        · refine .inr ⟨j + 1, e', by simpa using h3, by simpa using h4, ?_⟩
          rw [show i + (j + 1) = i + 1 + j by omega]
          simp [Instr.findAsking, h1, he, hxy, h5]
theorem mk_struct {P : Program} {t : TypeId} {fs : Array Field} {K : κ → Value} (ht : P.underlying t = some (.struct fs)) (he : ∀ (w : World) (x y : κ), (Op.equal t (K x) (K y)).run P w = .ok (decide (x = y)) w)
    (hc : ∀ (w : World) (em : Bool) (x : κ), (Instr.checkKey em 10000 t (K x)).run P w = .ok () w) (hs : ∀ x, Instr.sameBits 10000 (K x) (K x) = true) : MK P t K where
  check := hc
  stays w x := by simp [Instr.keyThatStays, hs]
  find w x es ks h := by
    unfold Instr.findKey
    cases es with
    | nil =>
      obtain rfl : ks = [] := by cases ks; rfl; simp at h
      exact .inl ⟨by simp, by simp [run_underlying ht, Instr.findNow]⟩
    | cons e es =>
      have hn : Instr.findNow (.struct fs) (K x) (e :: es) 0 = none := by unfold Instr.findNow; simp [Instr.sameNow]
      rcases findAsking_of he w x (e :: es) ks 0 h with ⟨h1, h2⟩ | ⟨j, e', h1, h2, h3⟩
      · exact .inl ⟨h1, by simp [run_underlying ht, hn, h2]⟩
      · exact .inr ⟨j, e', h1, h2, by rw [Nat.zero_add] at h3; simp [run_underlying ht, hn, h3]⟩

/-! ### the resources -/
def ents (K : κ → Value) (V : ν → Value) (bn : κ → Nat) (m : List (κ × ν)) : List MapEntry := m.map fun x => ⟨K x.1, V x.2, bn x.1⟩
/-- What stands in a map's block. -/
def MapAt (K : κ → Value) (V : ν → Value) (w : World) (b : Nat) (m : List (κ × ν)) (bn : κ → Nat) (clock : Nat) : Prop :=
  w.heap[b]? = some (.map (ents K V bn m).toArray clock) ∧ (∀ x ∈ m, bn x.1 < clock) ∧ (∀ x ∈ m, ∀ y ∈ m, bn x.1 = bn y.1 → x.1 = y.1) ∧ (m.map (·.1)).Nodup
/-- A map. -/
def mapR (K : κ → Value) (V : ν → Value) (b : Nat) (m : List (κ × ν)) : Res where
  holds S w := S b ∧ ∃ bn clock, MapAt K V w b m bn clock
  lcl S S' w w' h hw hS := by
    obtain ⟨h1, bn, clock, h2, h3⟩ := h
    exact ⟨hS b h1, bn, clock, (hw b h1).trans h2, h3⟩
/-- A map, and the stamp of one key. -/
def stampR (K : κ → Value) (V : ν → Value) (b : Nat) (m : List (κ × ν)) (k : κ) (n : Nat) : Res where
  holds S w := S b ∧ ∃ bn clock, MapAt K V w b m bn clock ∧ bn k = n ∧ k ∈ m.map (·.1)
  lcl S S' w w' h hw hS := by
    obtain ⟨h1, bn, clock, ⟨h2, h3⟩, h4⟩ := h
    exact ⟨hS b h1, bn, clock, ⟨(hw b h1).trans h2, h3⟩, h4⟩
/-- A map that is ranged over: who is left; who has just come. -/
def rngR (K : κ → Value) (V : ν → Value) (b r : Nat) (m : List (κ × ν)) (left : κ → Bool) (cur : Option κ) : Res where
  holds S w := S b ∧ S r ∧ ∃ bn clock since seen c0, MapAt K V w b m bn clock ∧ w.heap[r]? = some (.mapIter (some b) since seen c0) ∧ (∀ x ∈ m, bn x.1 < since) ∧ since ≤ c0 ∧ since ≤ clock ∧
    (∀ x ∈ m, left x.1 = !seen.contains (bn x.1)) ∧ ∀ k, cur = some k → ∃ pre : Array Nat, seen = pre.push (bn k) ∧ c0 = clock
  lcl S S' w w' h hw hS := by
    obtain ⟨h1, h2, bn, clock, since, seen, c0, ⟨h3, h4⟩, h5, h6⟩ := h
    exact ⟨hS b h1, hS r h2, bn, clock, since, seen, c0, ⟨(hw b h1).trans h3, h4⟩, (hw r h2).trans h5, h6⟩
theorem ents_keys (K : κ → Value) (V : ν → Value) (bn : κ → Nat) (m : List (κ × ν)) : (ents K V bn m).map (·.key) = (m.map (·.1)).map K := by simp [ents]
theorem sb_turn {S : Nat → Prop} {w : World} {b : Nat} {o : Obj} (hb : S b) : Turn S w (setBlock w b o) :=
  ⟨rfl, rfl, rfl, by simp [setBlock], fun k _ hk => by
    simp only [setBlock]
    rw [Array.getElem?_setIfInBounds_ne (fun e => hk (by rw [← e]; exact hb))]⟩
theorem sb_heap {w : World} {b : Nat} {o o' : Obj} (hb : w.heap[b]? = some o') : (setBlock w b o).heap[b]? = some o := by
  have := (Array.getElem?_eq_some_iff.1 hb).1
  simp [setBlock, this]
theorem sb_other {w : World} {b r : Nat} {o : Obj} (h : r ≠ b) : (setBlock w b o).heap[r]? = w.heap[r]? := by
  simp only [setBlock]
  rw [Array.getElem?_setIfInBounds_ne (Ne.symm h)]
theorem run_getO {P : Program} {w : World} {b : Nat} {es : Array MapEntry} {c : Nat} (hb : w.heap[b]? = some (.map es c)) : (getObj b).run P w = .ok (.map es c) w := by simp [getObj, Sem.run, hb]
theorem run_setO {P : Program} {w : World} {b : Nat} {o : Obj} {es : Array MapEntry} {c : Nat} (hb : w.heap[b]? = some (.map es c)) : (setObj b o).run P w = .ok () (setBlock w b o) := by simp [setObj, Sem.run, hb, setBlock]
theorem modify_ents {K : κ → Value} {V : ν → Value} {bn : κ → Nat} {m : List (κ × ν)} {k : κ} {v : ν} {j : Nat} (hn : (m.map (·.1)).Nodup) (hj : (m.map (·.1))[j]? = some k) :
    (ents K V bn m).toArray.modify j (fun e => ⟨K k, V v, e.born⟩) = (ents K V bn (mput m k v)).toArray := by
  have hk : k ∈ m.map (·.1) := List.mem_of_getElem? hj
  rw [mput_old hk]
  apply Array.ext'
  rw [Array.toList_modify]
  apply List.ext_getElem?
  intro i
  rw [List.getElem?_modify]
  simp only [ents, List.getElem?_map]
  rw [List.getElem?_map] at hj
  obtain ⟨x, hx, rfl⟩ := Option.map_eq_some_iff.1 hj
  by_cases hij : j = i
  · subst hij
    simp [hx]
  · cases hi : m[i]? with
    | none => rfl
    | some y =>
      have hne : ¬ y.1 = x.1 := fun e => by
        have h1 : (m.map (·.1))[j]? = some x.1 := by rw [List.getElem?_map, hx]; rfl
        have h2 : (m.map (·.1))[i]? = some x.1 := by rw [List.getElem?_map, hi, ← e]; rfl
        obtain ⟨l1, e1⟩ := List.getElem?_eq_some_iff.1 h1
        obtain ⟨l2, e2⟩ := List.getElem?_eq_some_iff.1 h2
        rcases Nat.lt_or_ge j i with h | h
        · exact (List.pairwise_iff_getElem.1 hn) j i l1 l2 h (by rw [e1, e2])
        · exact (List.pairwise_iff_getElem.1 hn) i j l2 l1 (by omega) (by rw [e1, e2])
      simp [hne, hij]
theorem mput_mem {m : List (κ × ν)} {k : κ} {v : ν} {x : κ × ν} (hk : k ∈ m.map (·.1)) (hx : x ∈ mput m k v) : ∃ y ∈ m, y.1 = x.1 := by
  have : x.1 ∈ (mput m k v).map (·.1) := List.mem_map.2 ⟨x, hx, rfl⟩
  rw [mput_keys hk] at this
  obtain ⟨y, hy, e⟩ := List.mem_map.1 this
  exact ⟨y, hy, e⟩
section
variable {P : Program} {t kt et : TypeId} {K : κ → Value} {V : ν → Value} {w : World} {b : Nat} {m : List (κ × ν)} {bn : κ → Nat} {clock : Nat} {k : κ} {v z0 : ν}
/-- a value that is put at a key that is there -/
theorem MapAt.put_old (h : MapAt K V w b m bn clock) (hk : k ∈ m.map (·.1)) : MapAt K V (setBlock w b (.map (ents K V bn (mput m k v)).toArray clock)) b (mput m k v) bn clock := by
  obtain ⟨h1, h2, h3, h4⟩ := h
  refine ⟨sb_heap h1, fun x hx => ?_, fun x hx y hy e => ?_, mput_nodup h4⟩
  · obtain ⟨y, hy, e⟩ := mput_mem hk hx
    rw [← e]; exact h2 y hy
  · obtain ⟨x', hx', ex⟩ := mput_mem hk hx
    obtain ⟨y', hy', ey⟩ := mput_mem hk hy
    rw [← ex, ← ey] at e ⊢
    exact h3 x' hx' y' hy' e
theorem MapAt.put_new (h : MapAt K V w b m bn clock) (hk : k ∉ m.map (·.1)) :
    (ents K V bn m).toArray.push ⟨K k, V v, clock⟩ = (ents K V (fun x => if x = k then clock else bn x) (mput m k v)).toArray ∧
    MapAt K V (setBlock w b (.map (ents K V (fun x => if x = k then clock else bn x) (mput m k v)).toArray (clock + 1))) b (mput m k v) (fun x => if x = k then clock else bn x) (clock + 1) := by
  obtain ⟨h1, h2, h3, h4⟩ := h
  have hne : ∀ x ∈ m, ¬ x.1 = k := fun x hx e => hk (List.mem_map.2 ⟨x, hx, e⟩)
  refine ⟨?_, sb_heap h1, fun x hx => ?_, fun x hx y hy e => ?_, mput_nodup h4⟩
  · rw [mput_new hk]
    apply Array.ext'
    simp only [Array.toList_push, ents, List.map_append, List.map_cons, List.map_nil, if_true]
    congr 1
    apply List.map_congr_left
    intro x hx
    simp [hne x hx]
  · rw [mput_new hk] at hx
    rcases List.mem_append.1 hx with hx | hx
    · simp only [if_neg (hne x hx)]
      have := h2 x hx; omega
    · obtain rfl := List.mem_singleton.1 hx
      simp
  · rw [mput_new hk] at hx hy
    rcases List.mem_append.1 hx with hx | hx
    · rcases List.mem_append.1 hy with hy | hy
      · simp only [if_neg (hne x hx), if_neg (hne y hy)] at e
        exact h3 x hx y hy e
      · obtain rfl := List.mem_singleton.1 hy
        simp only [if_neg (hne x hx), if_true] at e
        have := h2 x hx; omega
    · obtain rfl := List.mem_singleton.1 hx
      rcases List.mem_append.1 hy with hy | hy
      · simp only [if_neg (hne y hy), if_true] at e
        have := h2 y hy; omega
      · obtain rfl := List.mem_singleton.1 hy
        rfl
theorem run_lookupM [hK : MK P kt K] (ht : P.underlying t = some (.map kt et)) (hz : ∀ w, (zeroValue et).run P w = .ok (V z0) w) (h : MapAt K V w b m bn clock) : (Instr.lookup t (.map (some b)) (K k) false).run P w = .ok (V ((mget m k).getD z0)) w := by
  obtain ⟨h1, h2, h3, h4⟩ := h
  rcases hK.find w k (ents K V bn m) (m.map (·.1)) (ents_keys K V bn m) with ⟨hn, hr⟩ | ⟨j, e, hj, he, hr⟩
  · rw [mget_none hn]
    simp [Instr.lookup, run_underlying ht, run_getO h1, hK.check, hr, hz]
  · rw [List.getElem?_map] at hj
    obtain ⟨x, hx, rfl⟩ := Option.map_eq_some_iff.1 hj
    have : mget m x.1 = some x.2 := mget_some h4 (List.mem_of_getElem? hx)
    rw [this]
    simp only [ents, List.getElem?_map, hx, Option.map_some, Option.some.injEq] at he
    subst he
    simp [Instr.lookup, run_underlying ht, run_getO h1, hK.check, hr]
theorem run_updateM [hK : MK P kt K] (ht : P.underlying t = some (.map kt et)) (h : MapAt K V w b m bn clock) :
    (k ∈ m.map (·.1) ∧ (Instr.mapUpdate t (.map (some b)) (K k) (V v)).run P w = .ok () (setBlock w b (.map (ents K V bn (mput m k v)).toArray clock))) ∨
    (k ∉ m.map (·.1) ∧ (Instr.mapUpdate t (.map (some b)) (K k) (V v)).run P w = .ok () (setBlock w b (.map (ents K V (fun x => if x = k then clock else bn x) (mput m k v)).toArray (clock + 1)))) := by
  have hh := h
  obtain ⟨h1, h2, h3, h4⟩ := h
  rcases hK.find w k (ents K V bn m) (m.map (·.1)) (ents_keys K V bn m) with ⟨hn, hr⟩ | ⟨j, e, hj, he, hr⟩
  · refine .inr ⟨hn, ?_⟩
    rw [← (hh.put_new (v := v) hn).1]
    simp [Instr.mapUpdate, run_underlying ht, run_getO h1, hK.check, hr, run_setO h1]
  · refine .inl ⟨List.mem_of_getElem? hj, ?_⟩
    rw [← modify_ents h4 hj]
    have hkey : (((ents K V bn m).toArray[j]?).map (·.key)).getD (K k) = K k := by
      rw [List.getElem?_toArray, he]
      simp only [Option.map_some, Option.getD_some]
      have := ents_keys K V bn m
      have h5 := congrArg (·[j]?) this
      simp only [List.getElem?_map, he, Option.map_some] at h5
      rw [List.getElem?_map] at hj
      rw [hj] at h5
      simpa using h5
    simp [Instr.mapUpdate, run_underlying ht, run_getO h1, hK.check, hr, run_setO h1, -List.getElem?_toArray, hkey, hK.stays]
end
end Go.Sx

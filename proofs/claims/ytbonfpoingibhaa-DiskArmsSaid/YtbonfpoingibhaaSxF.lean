/- Sx, part F: regions that draw their order: one walk along one order serves all. -/
import Derived.Test.YtbonfpoingibhaaSxD
set_option linter.unusedVariables false
set_option linter.unusedSimpArgs false
namespace Go.Sx
open Go.RowKit

/-- labels alone: nothing rests on them but which rule the walk must show -/
def isEff : Op → Bool
  | .move _ | .assign _ | .pick .. | .load .. | .nilCheck _ | .binOp .. | .unOp .. | .fieldAddr .. | .field .. | .indexAddr .. | .index .. | .extract .. | .slice .. | .build .. | .lookup .. | .convert .. => false
  | .call { callee := .builtin .len, .. } | .call { callee := .builtin .cap, .. } | .call { callee := .builtin .min, .. } | .call { callee := .builtin .max, .. } => false
  | _ => true
def isMem : Op → Bool
  | .load .. | .lookup .. | .call .. | .convert .. => true
  | _ => false

def predsFrom : List Oper → Nat → List (List Nat) → List (List Nat)
  | [], _, acc => acc
  | o :: r, k, acc => predsFrom r (k + 1) (acc ++ [(List.range k).filter fun i => o.after.any fun e => Region.binds .any e && (Nat.beq e.on i || (acc.getD e.on []).contains i)])
def preds (l : List Oper) : List (List Nat) := predsFrom l 0 []
def memAt (l : List Oper) (i : Nat) : Bool := match l[i]? with | some o => isMem o.op | none => false
def effAt (l : List Oper) (i : Nat) : Bool := match l[i]? with | some o => isEff o.op | none => true
/-- may load i still come behind j -/
def pend (l : List Oper) (j i : Nat) : Bool := !Nat.beq i j && memAt l i && !((preds l).getD j []).contains i
def needS (l : List Oper) (j : Nat) : Bool := (List.range l.length).any fun i => pend l j i
def pendL (l : List Oper) (j : Nat) : List Nat := (List.range l.length).filter fun i => pend l j i
theorem pend_lt {l : List Oper} {j i : Nat} (h : pend l j i = true) : i < l.length := by
  simp only [pend, Bool.and_eq_true] at h
  have h1 := h.1.2
  unfold memAt at h1
  cases hi : l[i]? with
  | none => rw [hi] at h1; cases h1
  | some o => exact (List.getElem?_eq_some_iff.1 hi).1
theorem pend_need {l : List Oper} {j i : Nat} (h : pend l j i = true) : needS l j = true := List.any_eq_true.2 ⟨i, by simp; exact pend_lt h, h⟩
theorem pend_mem {l : List Oper} {j i : Nat} (h : pend l j i = true) : i ∈ pendL l j := List.mem_filter.2 ⟨by simp; exact pend_lt h, h⟩

section
variable {P : Program} {l : List Oper} {Q : Exit → Act → World → Prop} {S : Nat → World → Prop}

def DC (l : List Oper) (listed : Array Bool) : Prop := ∀ (j : Nat) oj, l[j]? = some oj → listed.getD j false = true → ∀ e ∈ oj.after, Region.binds .any e = true → listed.getD e.on false = true
def PreOK (l : List Oper) (i k : Nat) : Prop := ∀ listed, DC l listed → (∀ ok, l[k]? = some ok → ∀ e ∈ ok.after, Region.binds .any e = true → listed.getD e.on false = true) → listed.getD i false = true
theorem predsFrom_ok (L : List Oper) : ∀ (r pre : List Oper) (acc : List (List Nat)), L = pre ++ r → acc.length = pre.length → (∀ (k : Nat) s, acc[k]? = some s → ∀ i ∈ s, PreOK L i k) →
    ∀ (k : Nat) s, (predsFrom r pre.length acc)[k]? = some s → ∀ i ∈ s, PreOK L i k := by
  intro r
  induction r with
  | nil => intro pre acc _ _ h; exact h
  | cons o r ih =>
    intro pre acc hL hlen h
    have := ih (pre ++ [o]) (acc ++ [(List.range pre.length).filter fun i => o.after.any fun e => Region.binds .any e && (Nat.beq e.on i || (acc.getD e.on []).contains i)]) (by simp [hL]) (by simp [hlen]) ?_
    · simpa [predsFrom] using this
    · intro k s hs i hi
      rcases Nat.lt_or_ge k acc.length with hk | hk
      · rw [List.getElem?_append_left hk] at hs
        exact h k s hs i hi
      · rw [List.getElem?_append_right hk] at hs
        have hk0 : k - acc.length = 0 := by
          rcases Nat.eq_zero_or_pos (k - acc.length) with h0 | h0
          · exact h0
          · rw [List.getElem?_eq_none (by simp; omega)] at hs; cases hs
        rw [hk0] at hs
        simp only [List.getElem?_cons_zero, Option.some.injEq] at hs
        subst hs
        have hkk : k = pre.length := by omega
        subst hkk
        have ho : L[pre.length]? = some o := by simp [hL]
        obtain ⟨_, hany⟩ := List.mem_filter.1 hi
        obtain ⟨e, he, hb⟩ := Array.any_eq_true'.1 hany
        simp only [Bool.and_eq_true, Bool.or_eq_true] at hb
        obtain ⟨hb1, hb2⟩ := hb
        intro listed hdc hall
        have hle := hall o ho e he hb1
        rcases hb2 with hb2 | hb2
        · rw [← Nat.eq_of_beq_eq_true hb2]; exact hle
        · have hmem : i ∈ acc.getD e.on [] := by simpa using hb2
          rw [List.getD_eq_getElem?_getD] at hmem
          cases hacc : acc[e.on]? with
          | none => rw [hacc] at hmem; simp at hmem
          | some s' =>
            rw [hacc] at hmem
            exact h e.on s' hacc i (by simpa using hmem) listed hdc (fun ok hok e' he' hb' => hdc e.on ok hok hle e' he' hb')
theorem preds_ok (i k : Nat) (h : ((preds l).getD k []).contains i = true) : PreOK l i k := by
  have hmem : i ∈ (preds l).getD k [] := by simpa using h
  rw [List.getD_eq_getElem?_getD] at hmem
  cases hp : (preds l)[k]? with
  | none => rw [hp] at hmem; simp at hmem
  | some s =>
    rw [hp] at hmem
    exact predsFrom_ok l l [] [] rfl rfl (by simp) k s hp i (by simpa using hmem)

/-- Whatever order is picked; behind an effect S holds where it may still be asked; what is no effect leaves the world. -/
def GX (l : List Oper) (S : Nat → World → Prop) (j : Nat) (w w' : World) : Prop := (effAt l j = true → ∀ i, pend l j i = true → S i w') ∧ (effAt l j = false → w' = w)
def wpAnyX (P : Program) (l : List Oper) (Q : Exit → Act → World → Prop) (S : Nat → World → Prop) : Nat → Array Bool → Act → World → Prop
  | 0, listed, a, w => Region.ready .any l.toArray listed = [] ∧ Q .normal a w
  | fuel + 1, listed, a, w =>
    (Region.ready .any l.toArray listed = [] → Q .normal a w) ∧
    ∀ i ∈ Region.ready .any l.toArray listed, wpOp P l.toArray Q i (fun a' w' => GX l S i w w' ∧ wpAnyX P l Q S fuel (listed.setIfInBounds i true) a' w') a w
theorem wpAny_of_X : ∀ (fuel : Nat) (listed : Array Bool) (a : Act) (w : World), wpAnyX P l Q S fuel listed a w → wpAny P .any l.toArray Q fuel listed a w
  | 0, _, _, _, h => h
  | fuel + 1, _, _, _, h => ⟨h.1, fun i hi => wpOp_mono (fun a' w' h' => wpAny_of_X fuel _ a' w' h'.2) (h.2 i hi)⟩

theorem DC.set {listed : Array Bool} {i : Nat} (h : DC l listed) (hi : i ∈ Region.ready .any l.toArray listed) : DC l (listed.setIfInBounds i true) := by
  intro j oj hj hl e he hb
  by_cases hij : i = j
  · subst hij
    obtain ⟨_, o, ho, hall⟩ := mem_ready.1 hi
    have : o = oj := by simpa [hj] using ho.symm
    subst this
    exact getD_set_true (hall e he hb)
  · rw [getD_set_ne false hij] at hl
    exact getD_set_true (h j oj hj hl e he hb)
theorem DC.start (n : Nat) : DC l (Array.replicate n false) := by
  intro j oj _ hl
  exfalso
  by_cases h : j < n <;> simp [h] at hl

theorem wpAnyX_first {i : Nat} {oi : Oper} {v : Value} {Si : World → Prop} (hi : l[i]? = some oi) (hsel : ∀ (j : Nat) (o : Oper) cs b, l[j]? = some o → o.op ≠ .select cs b)
    (hne : isEff oi.op = false) (hSi : isMem oi.op = true → ∀ w, S i w → Si w) (hSi' : isMem oi.op = false → ∀ w, Si w)
    (hQ : ∀ c a w, Q (.panic c) (a.put oi.dst v) w → Q (.panic c) a w) :
    ∀ (fuel : Nat) (listed : Array Bool) (a : Act) (w : World), DC l listed →
      (∀ j oj, l[j]? = some oj → j ≠ i → listed.getD j true = false → (∀ e ∈ oj.after, Region.binds .any e = true → e.on ≠ i) → oi.apart l.toArray oj = true) →
      i ∈ Region.ready .any l.toArray listed → YieldsIf P l.toArray Si oi v a → Si w → (isMem oi.op = true → S i w) →
      wpAnyX P l Q S fuel (listed.setIfInBounds i true) (a.put oi.dst v) w → wpAnyX P l Q S (fuel + 1) listed a w := by
  have hia : l.toArray[i]? = some oi := by simpa using hi
  have hsela : ∀ (j : Nat) (o : Oper) cs b, l.toArray[j]? = some o → o.op ≠ .select cs b := fun j o cs b h => hsel j o cs b (by simpa using h)
  have hself : ∀ w : World, GX l S i w w := fun w => ⟨fun h => by simp [effAt, hi, hne] at h, fun _ => rfl⟩
  intro fuel
  induction fuel with
  | zero =>
    intro listed a w hdc _ hr hy hw _ H
    refine ⟨fun h => (by rw [h] at hr; cases hr), fun j hj => ?_⟩
    by_cases hji : j = i
    · subst hji; exact hy.wpOp hia hw ⟨hself w, H⟩
    · have := ready_mono hj hji
      rw [H.1] at this
      cases this
  | succ fuel ih =>
    intro listed a w hdc hfree hr hy hw hSw H
    refine ⟨fun h => (by rw [h] at hr; cases hr), fun j hj => ?_⟩
    by_cases hji : j = i
    · subst hji; exact hy.wpOp hia hw ⟨hself w, H⟩
    · have h1 := H.2 j (ready_mono hj hji)
      obtain ⟨hjun, oj, hoj, hall⟩ := mem_ready.1 hj
      have hoj' : l[j]? = some oj := by simpa using hoj
      have hiun : listed.getD i false = false := by
        have h0 := (mem_ready.1 hr).1
        by_cases h' : i < listed.size
        · simp [h'] at h0 ⊢; exact h0
        · simp [Array.getElem?_eq_none (Nat.le_of_not_lt h')]
      have hnot : ∀ e ∈ oj.after, Region.binds .any e = true → e.on ≠ i := fun e he hb heq => by
        have h1 := hall e he hb
        rw [heq, hiun] at h1
        cases h1
      have h2 := wpOp_putIf hoj (hfree j oj hoj' hji hjun hnot) (fun cs b => hsela i oi cs b hia) (fun cs b => hsela j oj cs b hoj) hQ hy h1
      have hfree' : ∀ k ok, l[k]? = some ok → k ≠ i → (listed.setIfInBounds j true).getD k true = false →
          (∀ e ∈ ok.after, Region.binds .any e = true → e.on ≠ i) → oi.apart l.toArray ok = true := fun k ok hk hki hun hno => by
        refine hfree k ok hk hki ?_ hno
        by_cases hjk : j = k
        · subst hjk; exact hjun
        · rw [getD_set_ne true hjk] at hun; exact hun
      refine wpOp_mono (fun a' w' h3 => ⟨h3.2.1, ?_⟩) h2
      have hS' : isMem oi.op = true → S i w' := by
        intro hmem
        cases heff : effAt l j with
        | false => rw [h3.2.1.2 heff]; exact hSw hmem
        | true =>
          refine h3.2.1.1 heff i ?_
          have hb : Nat.beq i j = false := by
            cases hq : Nat.beq i j with
            | true => exact absurd (Nat.eq_of_beq_eq_true hq).symm hji
            | false => rfl
          have hm : memAt l i = true := by simp [memAt, hi, hmem]
          have hp : ((preds l).getD j []).contains i = false := by
            cases hq : ((preds l).getD j []).contains i with
            | false => rfl
            | true =>
              have := preds_ok i j hq listed hdc (fun ok hok e he hb => by
                have : ok = oj := by simpa [hoj'] using hok.symm
                subst this
                exact hall e he hb)
              rw [hiun] at this; cases this
          rw [pend, hb, hm, hp]; rfl
      have hw' : Si w' := by
        cases hmem : isMem oi.op with
        | true => exact hSi hmem w' (hS' hmem)
        | false => exact hSi' hmem w'
      refine ih (listed.setIfInBounds j true) a' w' (hdc.set hj) hfree' (ready_mono hr (Ne.symm hji)) h3.1 hw' hS' ?_
      rw [Array.setIfInBounds_comm _ _ hji]
      exact h3.2.2

/-- The order that the walk takes; at br one of two effects comes first. -/
inductive Od where
  | nil
  | cons (i : Nat) (r : Od)
  | br (i : Nat) (a : Od) (j : Nat) (b : Od)
def Od.len : Od → Nat
  | .nil => 0
  | .cons _ r => r.len + 1
  | .br _ a _ _ => a.len + 1
def drawB (l : List Oper) : Od → Array Bool → Bool
  | .nil, listed => (Region.ready .any l.toArray listed).isEmpty
  | .cons i is, listed => (match l[i]? with
      | none => false
      | some o => bif isEff o.op then decide (Region.ready .any l.toArray listed = [i]) else ((Region.ready .any l.toArray listed).contains i && Region.free .any l.toArray listed i)) && drawB l is (listed.setIfInBounds i true)
  | .br i a j b, listed => effAt l i && effAt l j && Nat.beq a.len b.len && decide (Region.ready .any l.toArray listed = [i, j]) && drawB l a (listed.setIfInBounds i true) && drawB l b (listed.setIfInBounds j true)
def stX (P : Program) (l : List Oper) (Q : Exit → Act → World → Prop) (S : Nat → World → Prop) (i : Nat) (K : Act → World → Prop) (a : Act) (w : World) : Prop :=
  match l[i]? with
    | none => False
    | some o => bif isEff o.op then wpOp P l.toArray Q i (fun a' w' => (∀ q, pend l i q = true → S q w') ∧ K a' w') a w
      else ∃ v, YieldsIf P l.toArray (bif isMem o.op then S i else fun _ => True) o v a ∧ (isMem o.op = true → S i w) ∧ K (a.put o.dst v) w
def whX (P : Program) (l : List Oper) (Q : Exit → Act → World → Prop) (S : Nat → World → Prop) : Od → Act → World → Prop
  | .nil, a, w => Q .normal a w
  | .cons i is, a, w => stX P l Q S i (whX P l Q S is) a w
  | .br i r j s, a, w => stX P l Q S i (whX P l Q S r) a w ∧ stX P l Q S j (whX P l Q S s) a w

theorem wpAnyX_of_wh (hs : Region.noSelect l.toArray = true) (hQ : ∀ c d v a w, Q (.panic c) (a.put d v) w → Q (.panic c) a w) : ∀ (is : Od) (listed : Array Bool) (a : Act) (w : World), DC l listed → drawB l is listed = true → whX P l Q S is a w → wpAnyX P l Q S is.len listed a w
  | .nil, listed, a, w, _, hB, h => ⟨by simpa [drawB] using hB, h⟩
  | .cons i is, listed, a, w, hdc, hB, h => by
    simp only [drawB, Bool.and_eq_true] at hB
    obtain ⟨hB1, hB2⟩ := hB
    cases hi : l[i]? with
    | none => simp [hi] at hB1
    | some o =>
      simp only [hi] at hB1
      simp only [whX, stX, hi] at h
      have hsel : ∀ (j : Nat) (o : Oper) cs b, l[j]? = some o → o.op ≠ .select cs b := fun j o cs b ho => Region.noSelect_spec hs j o cs b (by simpa using ho)
      cases he : isEff o.op with
      | true =>
        rw [he] at hB1 h
        simp only [cond_true] at hB1 h
        have hr : Region.ready .any l.toArray listed = [i] := by simpa using hB1
        refine ⟨fun h0 => (by rw [hr] at h0; cases h0), fun j hj => ?_⟩
        have hij : j = i := by rw [hr] at hj; simpa using hj
        subst hij
        have hdc' := hdc.set hj
        refine wpOp_mono (fun a' w' h' => ⟨⟨fun _ hn => h'.1 hn, fun h0 => by simp [effAt, hi, he] at h0⟩, wpAnyX_of_wh hs hQ is _ a' w' hdc' hB2 h'.2⟩) h
      | false =>
        rw [he] at hB1 h
        simp only [cond_false, Bool.and_eq_true] at hB1
        obtain ⟨v, hy, hm, hrest⟩ := h
        have hr : i ∈ Region.ready .any l.toArray listed := by simpa using hB1.1
        refine wpAnyX_first (Si := bif isMem o.op then S i else fun _ => True) hi hsel he (fun h1 w hw => by rw [h1]; exact hw) (fun h1 w => by rw [h1]; trivial) (fun c a w h => hQ c _ _ _ _ h) is.len listed a w hdc
          (fun j oj hj => Region.free_spec (by simpa using hi) hB1.2 j oj (by simpa using hj)) hr hy ?_ hm (wpAnyX_of_wh hs hQ is _ _ w (hdc.set hr) hB2 hrest)
        cases h1 : isMem o.op with
        | true => exact hm h1
        | false => trivial
  | .br i is j js, listed, a, w, hdc, hB, h => by
    simp only [drawB, Bool.and_eq_true] at hB
    obtain ⟨⟨⟨⟨⟨hei, hej⟩, hlen⟩, hr⟩, hBi⟩, hBj⟩ := hB
    have hr : Region.ready .any l.toArray listed = [i, j] := by simpa using hr
    have hlen := Nat.eq_of_beq_eq_true hlen
    have key : ∀ (q : Nat) (qs : Od), effAt l q = true → qs.len = is.len → q ∈ Region.ready .any l.toArray listed → (∀ a' w', DC l (listed.setIfInBounds q true) → whX P l Q S qs a' w' → wpAnyX P l Q S is.len (listed.setIfInBounds q true) a' w') → stX P l Q S q (whX P l Q S qs) a w → wpOp P l.toArray Q q (fun a' w' => GX l S q w w' ∧ wpAnyX P l Q S is.len (listed.setIfInBounds q true) a' w') a w := by
      intro q qs he hl hq hk hst
      cases hi : l[q]? with
      | none => simp [stX, hi] at hst
      | some o =>
        simp only [effAt, hi] at he
        simp only [stX, hi, he, cond_true] at hst
        exact wpOp_mono (fun a' w' h' => ⟨⟨fun _ hn => h'.1 hn, fun h0 => by simp [effAt, hi, he] at h0⟩, hk a' w' (hdc.set hq) h'.2⟩) hst
    refine ⟨fun h0 => (by rw [hr] at h0; cases h0), fun q hq => ?_⟩
    have hq' := hq
    rw [hr] at hq'
    simp only [List.mem_cons, List.not_mem_nil, or_false] at hq'
    rcases hq' with rfl | rfl
    · exact key q is hei rfl hq (fun a' w' hd hw => wpAnyX_of_wh hs hQ is _ a' w' hd hBi hw) h.1
    · exact key q js hej hlen.symm hq (fun a' w' hd hw => by rw [hlen]; exact wpAnyX_of_wh hs hQ js _ a' w' hd hBj hw) h.2
theorem wp_region_X {id : Nat} {a : Act} {w : World} (is : Od) (hlen : is.len = l.length) (hm : P.follows .mixedOrders = true) (hs : Region.noSelect l.toArray = true) (hQ : ∀ c d v a w, Q (.panic c) (a.put d v) w → Q (.panic c) a w)
    (hB : drawB l is (Array.replicate l.length false) = true) (h : whX P l Q S is a { w with drawn := w.drawn + 1 }) {r : Option Nat} (hg : ¬ LetsOut Q) (hnd : ndf r l = true) : (Code.region id l.toArray true).wpIn (fnc r) 0 P Q a w := by
  refine wpIn_region_any hm (any_in hg hnd _ (wpAny_of_X (S := S) _ _ _ _ ?_))
  have := wpAnyX_of_wh (P := P) (S := S) hs hQ is (Array.replicate l.length false) a _ (DC.start _) hB h
  rw [hlen] at this
  simpa using this
end

/-- The walk through such a region. -/
structure WH (P : Program) (l : List Oper) (S : Nat → World → Prop) (k : Kt) (is : Od) (n : Nat) (ρ : Env) (w : World) : Prop where
  out : whX P l (k.den P) S is (mkA n ρ) w
section
variable {P : Program} {l : List Oper} {S : Nat → World → Prop} {C : World → Prop} {k : Kt} {i : Nat} {is : Od} {n : Nat} {ρ : Env} {w w0 : World} {Rs : List Res}
variable {op : Op} {ty : TypeId} {pos : String} {after : Array Edge} {g : Option (Nat × Bool)}
/-- An order is drawn: is: the order of the walk; S: what the loads want. -/
theorem f_draw {id : Nat} (is : Od) (hm : P.follows .mixedOrders = true) (hB : (Nat.beq is.len l.length && Region.noSelect l.toArray && drawB l is (Array.replicate l.length false)) = true) (hS : Sat w0 Rs w) (h : ∀ w', Sat w0 Rs w' → WH P l (fun _ => Sat w0 Rs) k is n ρ w') (hnd : ndf k.rd l = true := by rfl) : WC P (.region id l.toArray true) k n ρ w := by
  simp only [Bool.and_eq_true] at hB
  exact ⟨wp_region_X (S := fun _ => Sat w0 Rs) is (Nat.eq_of_beq_eq_true hB.1.1) hm hB.1.2 (k.panic P) hB.2 (h { w with drawn := w.drawn + 1 } (hS.drew ⟨rfl, rfl, rfl, rfl⟩)).out (k.grown P) hnd⟩
/-- Operation o is carried out now, then is. -/
structure WG (P : Program) (l : List Oper) (S : Nat → World → Prop) (k : Kt) (i : Nat) (o : Oper) (is : Od) (n : Nat) (ρ : Env) (w : World) : Prop where
  out : o.guard = none → ∀ g, l[i]? = some ⟨o.dst, o.op, o.type, o.pos, o.after, g⟩ → wn l n ρ g = true → WH P l S k (.cons i is) n ρ w
theorem hgo {dst : Option Nat} (hi : l[i]? = some ⟨dst, op, ty, pos, after, g⟩) (hg : wn l n ρ g = true) (h : WG P l S k i ⟨dst, op, ty, pos, after, none⟩ is n ρ w) : WH P l S k (.cons i is) n ρ w := h.out rfl g hi hg
/-- What computes. -/
theorem hyp {d : Nat} {v : Value} (he : isEff op = false) (hm : isMem op = false) (hy : Yld P (fun _ => True) n ρ ⟨some d, op, ty, pos, after, none⟩ v) (h : WH P l S k is n (upd ρ d v) w) : WG P l S k i ⟨some d, op, ty, pos, after, none⟩ is n ρ w := by
  refine ⟨fun _ g hi hg => ⟨?_⟩⟩
  simp only at hi
  simp only [whX, stX, hi, he, hm, cond_false]
  refine ⟨v, .inl ⟨by rw [wanted_eq]; exact hg, fun w' _ => by rw [mkA_evalF]; exact hy.out w' trivial⟩, (fun h => by cases h), ?_⟩
  show whX P l (k.den P) S is ((mkA n ρ).put (some d) v) w
  rw [mkA_put]; exact h.out
/-- What reads. -/
theorem hym {d : Nat} {v : Value} (he : isEff op = false) (hm : isMem op = true) (hS : S i w) (hy : Yld P (S i) n ρ ⟨some d, op, ty, pos, after, none⟩ v) (h : WH P l S k is n (upd ρ d v) w) : WG P l S k i ⟨some d, op, ty, pos, after, none⟩ is n ρ w := by
  refine ⟨fun _ g hi hg => ⟨?_⟩⟩
  simp only at hi
  simp only [whX, stX, hi, he, hm, cond_false, cond_true]
  refine ⟨v, .inl ⟨by rw [wanted_eq]; exact hg, fun w' hw' => by rw [mkA_evalF]; exact hy.out w' hw'⟩, fun _ => hS, ?_⟩
  show whX P l (k.den P) S is ((mkA n ρ).put (some d) v) w
  rw [mkA_put]; exact h.out
/-- What is not wanted. -/
theorem hskip {d : Nat} (hi : l[i]? = some ⟨some d, op, ty, pos, after, g⟩) (hS : ∀ q, S q w) (hg : wn l n ρ g = false) (h : WH P l S k is n (upd ρ d undef) w) : WH P l S k (.cons i is) n ρ w := by
  constructor
  cases he : isEff op with
  | false =>
    simp only [whX, stX, hi, he, cond_false]
    refine ⟨undef, .inr ⟨by rw [wanted_eq]; exact hg, rfl⟩, fun _ => hS i, ?_⟩
    show whX P l (k.den P) S is ((mkA n ρ).put (some d) undef) w
    rw [mkA_put]; exact h.out
  | true =>
    simp only [whX, stX, hi, he, cond_true]
    unfold wpOp
    simp only [List.getElem?_toArray, hi]
    rw [wanted_eq]
    simp only [hg, Bool.false_eq_true, if_false]
    show (∀ q, pend l i q = true → S q w) ∧ whX P l (k.den P) S is ((mkA n ρ).put (some d) undef) w
    rw [mkA_put]; exact ⟨fun q _ => hS q, h.out⟩
def HJ (P : Program) (l : List Oper) (S : Nat → World → Prop) (k : Kt) (i : Nat) (is : Od) (a : Act) (w : World) : Prop := (∀ q, pend l i q = true → S q w) ∧ whX P l (k.den P) S is a w
/-- An effect: by the rules of a plain list. -/
theorem hef {o : Oper} (he : isEff o.op = true) (h : WL P l (.lp (HJ P l S k i is) k) [o] n ρ w) : WG P l S k i o is n ρ w := by
  refine ⟨fun h0 g hi hg => ⟨?_⟩⟩
  simp only [whX, stX, hi, he, cond_true]
  have h := h.out
  unfold wpOp
  simp only [List.getElem?_toArray, hi]
  rw [wanted_eq]
  simp only [hg, if_true]
  unfold wpList at h
  rw [wanted_eq] at h
  simp only [h0, wn, if_true] at h
  rcases h with h | ⟨h1, h2⟩
  · refine .inl ?_
    unfold Oper.wp at *
    have e : (execOp (mkA n ρ).eval ⟨o.dst, o.op, o.type, o.pos, o.after, g⟩) = execOp (mkA n ρ).eval o := rfl
    rw [e]
    generalize (execOp (mkA n ρ).eval o).run P w = r at *
    cases r with
    | ok x w' => cases x <;> exact h
    | halt x w' => cases x <;> exact h
  · exact .inr ⟨h1, h2⟩
theorem hnx (hS : ∀ q, S q w) (h : WH P l S k is n ρ w) : WQ P (.lp (HJ P l S k i is) k) .normal n ρ w := ⟨⟨fun q _ => hS q, h.out⟩⟩
theorem hnl (L : List Nat) (hL : pendL l i = L) (hS : ∀ q ∈ L, S q w) (h : WH P l S k is n ρ w) : WQ P (.lp (HJ P l S k i is) k) .normal n ρ w := ⟨⟨fun q hq => hS q (hL ▸ pend_mem hq), h.out⟩⟩
theorem hnn (hn : needS l i = false) (h : WH P l S k is n ρ w) : WQ P (.lp (HJ P l S k i is) k) .normal n ρ w := ⟨⟨(fun q h => by have h := pend_need h; rw [hn] at h; cases h), h.out⟩⟩
/-- Two effects: either may come first. -/
theorem hbr {j : Nat} {js : Od} (h1 : WH P l S k (.cons i is) n ρ w) (h2 : WH P l S k (.cons j js) n ρ w) : WH P l S k (.br i is j js) n ρ w := ⟨⟨h1.out, h2.out⟩⟩
theorem hdone (h : WQ P k .normal n ρ w) : WH P l S k .nil n ρ w := ⟨h.out⟩
variable {j d e : Nat} {b : Bool}
theorem hgt (hi : l[i]? = some ⟨some e, op, ty, pos, after, some (j, true)⟩) (hd : (l[j]?).bind (·.dst) = some d) (hn : Nat.ble (d + 1) n = true) (hb : ρ d = .bool b) (hS : ∀ q, S q w)
    (h1 : b = true → WG P l S k i ⟨some e, op, ty, pos, after, none⟩ is n (upd ρ d (.bool true)) w) (h0 : b = false → WH P l S k is n (upd (upd ρ d (.bool false)) e undef) w) : WH P l S k (.cons i is) n ρ w := by
  cases b with
  | true => have := h1 rfl; rw [upd_self hb] at this; exact hgo hi (by rw [wn_of hd hn hb]; rfl) this
  | false => have := h0 rfl; rw [upd_self hb] at this; exact hskip hi hS (by rw [wn_of hd hn hb]; rfl) this
theorem hgf (hi : l[i]? = some ⟨some e, op, ty, pos, after, some (j, false)⟩) (hd : (l[j]?).bind (·.dst) = some d) (hn : Nat.ble (d + 1) n = true) (hb : ρ d = .bool b) (hS : ∀ q, S q w)
    (h1 : b = true → WH P l S k is n (upd (upd ρ d (.bool true)) e undef) w) (h0 : b = false → WG P l S k i ⟨some e, op, ty, pos, after, none⟩ is n (upd ρ d (.bool false)) w) : WH P l S k (.cons i is) n ρ w := by
  cases b with
  | true => have := h1 rfl; rw [upd_self hb] at this; exact hskip hi hS (by rw [wn_of hd hn hb]; rfl) this
  | false => have := h0 rfl; rw [upd_self hb] at this; exact hgo hi (by rw [wn_of hd hn hb]; rfl) this
variable {p : Prop} [Decidable p]
theorem hgtd (hi : l[i]? = some ⟨some e, op, ty, pos, after, some (j, true)⟩) (hd : (l[j]?).bind (·.dst) = some d) (hn : Nat.ble (d + 1) n = true) (hb : ρ d = .bool (decide p)) (hS : ∀ q, S q w)
    (h1 : p → WG P l S k i ⟨some e, op, ty, pos, after, none⟩ is n (upd ρ d (.bool true)) w) (h0 : ¬ p → WH P l S k is n (upd (upd ρ d (.bool false)) e undef) w) : WH P l S k (.cons i is) n ρ w :=
  hgt hi hd hn hb hS (fun h => h1 (of_decide_eq_true h)) (fun h => h0 (of_decide_eq_false h))
theorem hgfd (hi : l[i]? = some ⟨some e, op, ty, pos, after, some (j, false)⟩) (hd : (l[j]?).bind (·.dst) = some d) (hn : Nat.ble (d + 1) n = true) (hb : ρ d = .bool (decide p)) (hS : ∀ q, S q w)
    (h1 : p → WH P l S k is n (upd (upd ρ d (.bool true)) e undef) w) (h0 : ¬ p → WG P l S k i ⟨some e, op, ty, pos, after, none⟩ is n (upd ρ d (.bool false)) w) : WH P l S k (.cons i is) n ρ w :=
  hgf hi hd hn hb hS (fun h => h1 (of_decide_eq_true h)) (fun h => h0 (of_decide_eq_false h))
theorem hgtn (hi : l[i]? = some ⟨some e, op, ty, pos, after, some (j, true)⟩) (hd : (l[j]?).bind (·.dst) = some d) (hn : Nat.ble (d + 1) n = true) (hb : ρ d = .bool (!decide p)) (hS : ∀ q, S q w)
    (h1 : ¬ p → WG P l S k i ⟨some e, op, ty, pos, after, none⟩ is n (upd ρ d (.bool true)) w) (h0 : p → WH P l S k is n (upd (upd ρ d (.bool false)) e undef) w) : WH P l S k (.cons i is) n ρ w :=
  hgt hi hd hn hb hS (fun h => h1 (nd_t h)) (fun h => h0 (nd_f h))
theorem hgfn (hi : l[i]? = some ⟨some e, op, ty, pos, after, some (j, false)⟩) (hd : (l[j]?).bind (·.dst) = some d) (hn : Nat.ble (d + 1) n = true) (hb : ρ d = .bool (!decide p)) (hS : ∀ q, S q w)
    (h1 : ¬ p → WH P l S k is n (upd (upd ρ d (.bool true)) e undef) w) (h0 : p → WG P l S k i ⟨some e, op, ty, pos, after, none⟩ is n (upd ρ d (.bool false)) w) : WH P l S k (.cons i is) n ρ w :=
  hgf hi hd hn hb hS (fun h => h1 (nd_t h)) (fun h => h0 (nd_f h))
end
end Go.Sx

/- The disk, in plain Lean: what its calls do. -/
import Derived.Test.YtbonfpoingibhaaSxU
set_option linter.unusedVariables false
set_option linter.unusedSimpArgs false
namespace Go.Dk
open Go.Sx

/-- A file and its durable part. -/
structure Fl where
  now : Bs
  last : Bs
def fl0 : Fl := ⟨[], []⟩
/-- A disk. -/
structure DS where
  files : Int → Fl
  queue : List (Int × Int)
  lost : Int
  down : Bool
  armed : Int
  keep : List Int
def st0 : DS := ⟨fun _ => fl0, [], 0, false, 0, []⟩
def upf (f : Int → Fl) (k : Int) (x : Fl) : Int → Fl := fun g => if g = k then x else f g
/-- bytes put into a string -/
def put (s : Bs) (at_ : Nat) (t : Bs) : Bs := if t = [] then s else (s ++ List.replicate (at_ + t.length - s.length) 0).take at_ ++ t ++ (s ++ List.replicate (at_ + t.length - s.length) 0).drop (at_ + t.length)
/-- sector n joins the queue, if it is not there -/
def addQ1 (q : List (Int × Int)) (f n : Int) : List (Int × Int) := if (f, n) ∈ q then q else q ++ [(f, n)]
/-- m sectors from n on -/
def addQ (f : Int) : Nat → Int → List (Int × Int) → List (Int × Int)
  | 0, _, q => q
  | m + 1, n, q => addQ f m (n + 1) (addQ1 q f n)
def nsec (at_ : Nat) (len : Nat) : Nat := (at_ + len - 1) / 64 - at_ / 64 + 1
def addW (st : DS) (f : Int) (at_ : Nat) (s : Bs) : DS :=
  if s = [] then st else { st with files := upf st.files f ⟨put (st.files f).now at_ s, (st.files f).last⟩, queue := addQ f (nsec at_ s.length) ((at_ : Int) / 64) st.queue }
def mayE (st : DS) (f : Int) : Int := if st.down then 9 else if f < 0 ∨ 16 ≤ f then 1 else 0
def fits (at_ : Int) (s : Bs) : Prop := 0 ≤ at_ ∧ at_ ≤ 16777216 ∧ at_ + s.length ≤ 16777216
instance (at_ : Int) (s : Bs) : Decidable (fits at_ s) := by unfold fits; infer_instance
def wrE (st : DS) (f at_ : Int) (s : Bs) : Int := if mayE st f ≠ 0 then mayE st f else if at_ < 0 then 1 else if ¬ fits at_ s then 6 else 0
/-- Write, without the crash -/
def wr (st : DS) (f at_ : Int) (s : Bs) : DS := if wrE st f at_ s = 0 then addW st f at_.toNat s else st
def endsB (st : DS) : Bool := !st.down && decide (st.armed ≠ 0) && decide (st.armed - 1 = 0)
def endsD (st : DS) : DS := if st.down = true ∨ st.armed = 0 then st else { st with armed := st.armed - 1 }
/-- does the i-th sector survive -/
def surv (keep : List Int) (i : Nat) : Bool := decide (keep ≠ []) && decide ((keep.getD (i % keep.length) 0) % 2 = 1)
def secOf (s : Bs) (n : Int) : Bs := (s.take (64 * n + 64).toNat).drop (64 * n).toNat
def step1 (keep : List Int) (i : Nat) (p : Int × Int) (f : Int → Fl) : Int → Fl :=
  if surv keep i = true ∧ 64 * p.2 < (f p.1).now.length then upf f p.1 ⟨(f p.1).now, put (f p.1).last (64 * p.2).toNat (secOf (f p.1).now p.2)⟩ else f
def steps (keep : List Int) : Nat → List (Int × Int) → (Int → Fl) → Int → Fl
  | _, [], f => f
  | i, p :: q, f => steps keep (i + 1) q (step1 keep i p f)
def fin (f : Int → Fl) : Int → Fl := fun k => ⟨(f k).last, (f k).last⟩
def crash (st : DS) (keep : List Int) : DS := if st.down then st else { st with files := fin (steps keep 0 st.queue st.files), queue := [], down := true, armed := 0 }
def settle (st : DS) (f : Int) (s : Bs) : DS := { st with files := upf st.files f ⟨s, s⟩, queue := st.queue.filter fun p => !decide (p.1 = f) }
/-- the crash that comes with a call -/
def tick (st : DS) : DS := if endsB st then crash (endsD st) st.keep else endsD st
def writeE (st : DS) (f at_ : Int) (s : Bs) : Int := if endsB st then 9 else wrE (endsD st) f at_ s
def writeD (st : DS) (f at_ : Int) (s : Bs) : DS := if endsB st then crash (wr (endsD st) f at_ s) st.keep else wr (endsD st) f at_ s
def sync1E (st : DS) (f : Int) : Int := if mayE st f ≠ 0 then mayE st f else if 0 < st.lost then 10 else 0
def sync1 (st : DS) (f : Int) : DS := if mayE st f ≠ 0 then st else if 0 < st.lost then { st with lost := st.lost - 1 } else settle st f (st.files f).now
def syncE (st : DS) (f : Int) : Int := sync1E (tick st) f
def syncD (st : DS) (f : Int) : DS := sync1 (tick st) f
def trunc1E (st : DS) (f n : Int) : Int := if mayE st f ≠ 0 then mayE st f else if n < 0 ∨ (st.files f).now.length < n then 1 else 0
def trunc1 (st : DS) (f n : Int) : DS := if trunc1E st f n ≠ 0 then st else settle st f ((st.files f).now.take n.toNat)
def truncE (st : DS) (f n : Int) : Int := trunc1E (tick st) f n
def truncD (st : DS) (f n : Int) : DS := trunc1 (tick st) f n
def loseD (st : DS) (n : Int) : DS := { st with lost := max n 0 }
def startD (st : DS) : DS := { st with down := false }
def armD (st : DS) (n : Int) (keep : List Int) : DS := { st with armed := max n 0, keep := keep }
def readE (st : DS) (f at_ size : Int) : Int := if mayE st f ≠ 0 then mayE st f else if at_ < 0 ∨ size < 0 then 1 else 0
def readB (st : DS) (f at_ size : Int) : Bs := if readE st f at_ size ≠ 0 then [] else ((st.files f).now.drop at_.toNat).take size.toNat

/-- What always holds. -/
structure DOk (st : DS) : Prop where
  fl : ∀ k, (st.files k).now.length ≤ 16777216 ∧ (st.files k).last.length ≤ (st.files k).now.length
  far : ∀ k, (k < 0 ∨ 16 ≤ k) → st.files k = fl0
  q : ∀ p ∈ st.queue, 0 ≤ p.1 ∧ p.1 < 16 ∧ 0 ≤ p.2 ∧ p.2 ≤ 262144
  nd : st.queue.Nodup
  lost0 : 0 ≤ st.lost
  armed0 : 0 ≤ st.armed ∧ st.armed ≤ 9223372036854775807
  lostM : st.lost ≤ 9223372036854775807
theorem put_len {s t : Bs} {a : Nat} : (put s a t).length = if t = [] then s.length else max s.length (a + t.length) := by
  unfold put
  split
  · rfl
  · simp only [List.length_append, List.length_take, List.length_drop, List.length_replicate]
    omega
theorem DOk.st0 : DOk st0 := ⟨fun _ => ⟨by simp [Dk.st0, fl0], by simp [Dk.st0, fl0]⟩, fun _ _ => rfl, fun p hp => (by cases hp), List.Pairwise.nil, by simp [Dk.st0], by simp [Dk.st0], by simp [Dk.st0]⟩
theorem addQ1_nd {q : List (Int × Int)} {f n : Int} (h : q.Nodup) : (addQ1 q f n).Nodup := by
  unfold addQ1
  split
  · exact h
  · rename_i hn
    rw [List.nodup_append]
    refine ⟨h, by simp, fun a ha b hb => ?_⟩
    rw [List.mem_singleton.1 hb]
    rintro rfl
    exact hn ha
theorem addQ_nd {f : Int} : ∀ (m : Nat) (n : Int) {q : List (Int × Int)}, q.Nodup → (addQ f m n q).Nodup
  | 0, _, _, h => h
  | m + 1, n, _, h => addQ_nd m (n + 1) (addQ1_nd h)
theorem addQ1_mem {q : List (Int × Int)} {f n : Int} {p : Int × Int} : p ∈ addQ1 q f n ↔ p ∈ q ∨ p = (f, n) := by
  unfold addQ1
  split
  · rename_i h
    constructor
    · exact .inl
    · rintro (h' | rfl)
      · exact h'
      · exact h
  · simp
theorem addQ_mem {f : Int} : ∀ (m : Nat) (n : Int) {q : List (Int × Int)} {p : Int × Int}, p ∈ addQ f m n q ↔ p ∈ q ∨ (p.1 = f ∧ n ≤ p.2 ∧ p.2 < n + m)
  | 0, n, q, p => by simp [addQ]; omega
  | m + 1, n, q, p => by
    rw [addQ, addQ_mem m (n + 1), addQ1_mem]
    obtain ⟨p1, p2⟩ := p
    simp only [Prod.mk.injEq]
    constructor
    · rintro ((h | ⟨h1, h2⟩) | ⟨h1, h2, h3⟩)
      · exact .inl h
      · exact .inr ⟨h1, by omega, by omega⟩
      · exact .inr ⟨h1, by omega, by omega⟩
    · rintro (h | ⟨h1, h2, h3⟩)
      · exact .inl (.inl h)
      · by_cases h4 : p2 = n
        · exact .inl (.inr ⟨h1, h4⟩)
        · exact .inr ⟨h1, by omega, by omega⟩
theorem DOk.addW {st : DS} (h : DOk st) {f : Int} {a : Nat} {s : Bs} (hf : 0 ≤ f ∧ f < 16) (hfit : fits a s) : DOk (addW st f a s) := by
  unfold Dk.addW
  by_cases hs : s = []
  · rw [if_pos hs]; exact h
  · rw [if_neg hs]
    have hsl : 0 < s.length := List.length_pos_iff.2 hs
    obtain ⟨f1, f2, f3⟩ := hfit
    refine ⟨fun k => ?_, fun k hk => ?_, fun p hp => ?_, addQ_nd _ _ h.nd, h.lost0, h.armed0, h.lostM⟩
    · simp only [upf]
      split
      · have h1 := h.fl f
        simp only [put_len, if_neg hs]
        omega
      · exact h.fl k
    · simp only [upf]
      rw [if_neg (by omega)]
      exact h.far k hk
    · rcases (addQ_mem _ _).1 hp with hp | ⟨h1, h2, h3⟩
      · exact h.q p hp
      · simp only [nsec] at h3
        omega
theorem fits_toNat {a : Int} {s : Bs} (h : fits a s) : fits a.toNat s := by unfold fits at *; omega
theorem DOk.wr {st : DS} (h : DOk st) (f a : Int) (s : Bs) : DOk (wr st f a s) := by
  unfold Dk.wr
  split
  · rename_i he
    unfold wrE at he
    split at he
    · rename_i h1; exact absurd he h1
    · rename_i h1
      split at he
      · omega
      · split at he
        · omega
        · rename_i h2 h3
          refine h.addW ?_ (fits_toNat (by simpa using h3))
          unfold mayE at h1
          split at h1
          · omega
          · split at h1 <;> omega
  · exact h
theorem DOk.endsD {st : DS} (h : DOk st) : DOk (endsD st) := by
  unfold Dk.endsD
  split
  · exact h
  · rename_i hn
    have := h.armed0
    have h2 : st.armed ≠ 0 := fun e => hn (.inr e)
    exact ⟨h.fl, h.far, h.q, h.nd, h.lost0, by simp only; omega, h.lostM⟩
theorem DOk.settle {st : DS} (h : DOk st) {f : Int} {s : Bs} (hf : 0 ≤ f ∧ f < 16) (hs : s.length ≤ 16777216) : DOk (settle st f s) := by
  refine ⟨fun k => ?_, fun k hk => ?_, fun p hp => h.q p (List.mem_filter.1 hp).1, h.nd.filter _, h.lost0, h.armed0, h.lostM⟩
  · simp only [Dk.settle, upf]
    split
    · simp only; omega
    · exact h.fl k
  · simp only [Dk.settle, upf]
    rw [if_neg (by omega)]
    exact h.far k hk
/-- files of which each is not shorter than its durable part -/
structure FOk (f : Int → Fl) : Prop where
  fl : ∀ k, (f k).now.length ≤ 16777216 ∧ (f k).last.length ≤ (f k).now.length
  far : ∀ k, (k < 0 ∨ 16 ≤ k) → f k = fl0
theorem secOf_len {s : Bs} {n : Int} (h0 : 0 ≤ n) (h : 64 * n < s.length) : 0 < (secOf s n).length ∧ (64 * n).toNat + (secOf s n).length ≤ s.length := by
  simp only [secOf, List.length_drop, List.length_take]; omega
theorem FOk.step1 {f : Int → Fl} (h : FOk f) {keep : List Int} {i : Nat} {p : Int × Int} (hp : 0 ≤ p.1 ∧ p.1 < 16 ∧ 0 ≤ p.2) : FOk (step1 keep i p f) := by
  unfold Dk.step1
  split
  · rename_i hc
    have hl := secOf_len hp.2.2 hc.2
    have hl0 : ¬ secOf (f p.1).now p.2 = [] := fun e => by rw [e] at hl; simp at hl
    refine ⟨fun k => ?_, fun k hk => ?_⟩
    · simp only [upf]
      split
      · have := h.fl p.1
        simp only [put_len, if_neg hl0]; omega
      · exact h.fl k
    · simp only [upf]
      rw [if_neg (by omega)]
      exact h.far k hk
  · exact h
theorem FOk.steps {keep : List Int} : ∀ {q : List (Int × Int)} {i : Nat} {f : Int → Fl}, FOk f → (∀ p ∈ q, 0 ≤ p.1 ∧ p.1 < 16 ∧ 0 ≤ p.2) → FOk (steps keep i q f)
  | [], _, _, h, _ => h
  | p :: q, i, f, h, hq => by
    show FOk (Dk.steps keep (i + 1) q (Dk.step1 keep i p f))
    exact FOk.steps (h.step1 (hq p (by simp))) (fun p' hp' => hq p' (by simp [hp']))
theorem FOk.fin {f : Int → Fl} (h : FOk f) : FOk (fin f) :=
  ⟨fun k => by have := h.fl k; simp only [Dk.fin]; omega, fun k hk => by simp only [Dk.fin, h.far k hk]; rfl⟩
theorem DOk.fok {st : DS} (h : DOk st) : FOk st.files := ⟨h.fl, h.far⟩
theorem DOk.crash {st : DS} (h : DOk st) (keep : List Int) : DOk (crash st keep) := by
  unfold Dk.crash
  split
  · exact h
  · have hf := (FOk.steps (keep := keep) (q := st.queue) (i := 0) h.fok (fun p hp => by have := h.q p hp; omega)).fin
    exact ⟨hf.fl, hf.far, fun p hp => (by cases hp), List.Pairwise.nil, h.lost0, by simp, h.lostM⟩
theorem DOk.tick {st : DS} (h : DOk st) : DOk (tick st) := by
  unfold Dk.tick
  split
  · exact h.endsD.crash _
  · exact h.endsD
theorem may_in {st : DS} {f : Int} (h : ¬ mayE st f ≠ 0) : st.down = false ∧ 0 ≤ f ∧ f < 16 := by
  unfold mayE at h
  split at h
  · simp at h
  · rename_i hd
    split at h
    · simp at h
    · exact ⟨by simpa using hd, by omega⟩
theorem DOk.sync1 {st : DS} (h : DOk st) (f : Int) : DOk (sync1 st f) := by
  unfold Dk.sync1
  split
  · exact h
  · rename_i hm
    split
    · have := h.lost0
      have := h.lostM
      exact ⟨h.fl, h.far, h.q, h.nd, by simp only; omega, h.armed0, by simp only; omega⟩
    · exact h.settle (may_in hm).2 (h.fl f).1
theorem DOk.trunc1 {st : DS} (h : DOk st) (f n : Int) : DOk (trunc1 st f n) := by
  unfold Dk.trunc1
  split
  · exact h
  · rename_i ht
    unfold trunc1E at ht
    split at ht
    · rename_i h1; exact absurd h1 (by simpa using ht)
    · rename_i hm
      exact h.settle (may_in hm).2 (by have := (h.fl f).1; rw [List.length_take]; omega)
theorem DOk.write {st : DS} (h : DOk st) (f a : Int) (s : Bs) : DOk (writeD st f a s) := by
  unfold writeD
  split
  · exact (h.endsD.wr f a s).crash _
  · exact h.endsD.wr f a s
theorem DOk.sync {st : DS} (h : DOk st) (f : Int) : DOk (syncD st f) := h.tick.sync1 f
theorem DOk.trunc {st : DS} (h : DOk st) (f n : Int) : DOk (truncD st f n) := h.tick.trunc1 f n
theorem DOk.lose {st : DS} (h : DOk st) {n : Int} (hn : n ≤ 9223372036854775807) : DOk (loseD st n) := ⟨h.fl, h.far, h.q, h.nd, by simp only [loseD]; omega, h.armed0, by simp only [loseD]; omega⟩
theorem DOk.start {st : DS} (h : DOk st) : DOk (startD st) := ⟨h.fl, h.far, h.q, h.nd, h.lost0, h.armed0, h.lostM⟩
theorem DOk.arm {st : DS} (h : DOk st) {n : Int} (hn : n ≤ 9223372036854775807) (keep : List Int) : DOk (armD st n keep) := ⟨h.fl, h.far, h.q, h.nd, h.lost0, by simp only [armD]; omega, h.lostM⟩
theorem DOk.qlen {st : DS} (h : DOk st) : st.queue.length ≤ 5000000 := by
  have h1 : (st.queue.map fun p => (p.1 * 262145 + p.2).toNat).length ≤ 16 * 262145 := by
    refine nodup_lt _ _ ?_ fun x hx => ?_
    · rw [List.Nodup, List.pairwise_map]
      refine List.Pairwise.imp_of_mem ?_ h.nd
      intro a b ha hb hne e
      have h1 := h.q a ha
      have h2 := h.q b hb
      exact hne (Prod.ext (by omega) (by omega))
    · obtain ⟨p, hp, rfl⟩ := List.mem_map.1 hx
      have := h.q p hp
      omega
  rw [List.length_map] at h1
  omega
end Go.Dk

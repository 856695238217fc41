import Derived.Test.YthakebelpnfinaaG18
set_option linter.unusedVariables false
set_option linter.unusedSimpArgs false
set_option maxRecDepth 20000
set_option maxHeartbeats 1000000
namespace Go.Proofs.Ythakebelpnfinaa
open Go.RowKit Go.Sx
attribute [local irreducible] boxR rowR bigR

section
variable {w0 w : World} {τ : Type} {E : Enc τ}
theorem Rd.imp {C C' : World → Prop} {A : Option Addr} {l : List τ} (h : Rd C E A l) (hi : ∀ w, C' w → C w) : Rd C' E A l := ⟨fun w hw => h.out w (hi w hw)⟩
theorem GRd.imp {C C' : World → Prop} {g : Gm} (h : GRd C g) (hi : ∀ w, C' w → C w) : GRd C' g :=
  ⟨Rd.imp h.goal hi, Rd.imp h.ms hi, fun i h1 => Rd.imp (h.ml i h1) hi, fun i h1 k h2 => Rd.imp (h.to i h1 k h2) hi⟩
theorem Rd.same {C : World → Prop} {A : Option Addr} {l l' : List τ} (h : Rd C E A l) (he : l'.map E.enc = l.map E.enc) : Rd C E A l' := by
  constructor
  intro w hw i x hi
  have h1 : (l'.map E.enc)[i]? = some (E.enc x) := by rw [List.getElem?_map, hi]; rfl
  rw [he, List.getElem?_map] at h1
  obtain ⟨y, hy, hxy⟩ := Option.map_eq_some_iff.1 h1
  obtain ⟨ad, ha, hc⟩ := h.out w hw i y hy
  exact ⟨ad, ha, by rw [← hxy]; exact hc⟩
theorem Rd.big {Rs Rt L L' : List Res} {T : TypeId} {A : Option Addr} {cap : Nat} {l : List τ} (hb : Pick Rs (bigR L) Rt) (hp : Pick L (rowR E T A cap l) L') : Rd (Sat w0 Rs) E A l :=
  Rd.imp (Rd.own (w0 := w0) (Rs := rowR E T A cap l :: bigR L' :: Rt) .hd) fun w hw => hw.focusA hp hb
/-- What holds a game: whoever has it can read it. -/
def OwnG (w0 : World) (h : Gm) (X : List Res) : Prop := ∀ Rs Rt, Pick Rs (bigR X) Rt → GRd (Sat w0 Rs) h
theorem OwnG.mk {h : Gm} {X : List Res} (hx : ∀ Rt, GRd (Sat w0 (X ++ Rt)) h) : OwnG w0 h X := fun Rs Rt hp => (hx Rt).imp fun w hw => (hw.pick hp).big_out
theorem OwnG.rd {h : Gm} {X Rs Rt : List Res} (ho : OwnG w0 h X) (hp : Pick Rs (bigR X) Rt := by first | ((with_reducible (repeat (first | exact Pick.hd | apply Pick.tl))); done) | ((repeat (first | exact Pick.hd | apply Pick.tl)); done) | fail) : GRd (Sat w0 Rs) h := ho Rs Rt hp
theorem pack4 {a b c d : Res} {X : List Res} (h : Sat w0 (a :: b :: c :: d :: X) w) : Sat w0 (bigR [a, b, c, d] :: X) w := Sat.big_in (L := [a, b, c, d]) h
theorem pack5 {a b c d e : Res} {X : List Res} (h : Sat w0 (a :: b :: c :: d :: e :: X) w) : Sat w0 (bigR [a, b, c, d, e] :: X) w := Sat.big_in (L := [a, b, c, d, e]) h
theorem own_grd {C : World → Prop} (h : Gm) (hg : Rd C boolE h.A h.goal) (hm : Rd C mlE h.B h.ms) (hl : ∀ x ∈ h.ms, Rd C mvE x.A x.l) (ht : ∀ x ∈ h.ms, ∀ m ∈ x.l, Rd C iE m.A m.to) : GRd C h :=
  ⟨hg, hm, fun i hi => hl _ (List.getElem_mem hi), fun i hi k hk => ht _ (List.getElem_mem hi) _ (List.getElem_mem hk)⟩
theorem pick_mem {x : Ml} : ∀ {ms : List Ml}, x ∈ ms → ∃ L', Pick (ms.map mlR) (mlR x) L'
  | y :: ms, h => by
    rcases List.mem_cons.1 h with rfl | h
    · exact ⟨_, .hd⟩
    · obtain ⟨L', hp⟩ := pick_mem h
      exact ⟨_, .tl hp⟩
theorem rd_ml {Rs Rt : List Res} {ms : List Ml} {x : Ml} (hb : Pick Rs (bigR (ms.map mlR)) Rt) (hx : x ∈ ms) : Rd (Sat w0 Rs) mvE x.A x.l := by
  obtain ⟨L', hp⟩ := pick_mem hx
  exact Rd.big hb hp
theorem rd_to {Rs Rt Lt : List Res} {l : List Mv} {m : Mv} (hb : Pick Rs (bigR Lt) Rt) (hL : HasL l Lt) (hm : m ∈ l) : Rd (Sat w0 Rs) iE m.A m.to := by
  obtain ⟨L', hp⟩ := hL m hm
  exact Rd.big hb hp
/-- A copy, with one more goal. -/
theorem own_a {A : Option Addr} {c : Nat} {goal' : List Bool} {B : Option Addr} {d : Nat} {ms : List Ml} {Lt : List Res} (hT : HasT ms Lt) : OwnG w0 ⟨A, c, goal', B, d, ms⟩ [rowR boolE 4 A c goal', rowR mlE 38 B d ms, bigR (ms.map mlR), bigR Lt] :=
  OwnG.mk fun Rt => own_grd _ (Rd.own .hd) (Rd.own (.tl .hd)) (fun x hx => rd_ml (.tl (.tl .hd)) hx) (fun x hx m hm => rd_to (.tl (.tl (.tl .hd))) (hT x hx) hm)
/-- A copy, with one more move. -/
theorem own_b {A A2 : Option Addr} {c c2 bT p : Nat} {a : Int} {t : Int} {goal : List Bool} {B : Option Addr} {d : Nat} {ms : List Ml} {Lt : List Res} (hp : p < ms.length) (hT : HasT ms Lt) :
    OwnG w0 (setM ⟨A, c, goal, B, d, ms⟩ p ⟨A2, c2, ms[p].l ++ [⟨a, some ⟨bT, 0, none⟩, 1, [t]⟩]⟩) [rowR boolE 4 A c goal, rowR mlE 38 B d (ms.set p ⟨A2, c2, ms[p].l ++ [⟨a, some ⟨bT, 0, none⟩, 1, [t]⟩]⟩), bigR ((ms.set p ⟨A2, c2, ms[p].l ++ [⟨a, some ⟨bT, 0, none⟩, 1, [t]⟩]⟩).map mlR), bigR Lt, boxR bT [.int .i64 t] 3] := by
  refine OwnG.mk fun Rt => own_grd _ (Rd.own .hd) (Rd.own (.tl .hd)) (fun x hx => rd_ml (.tl (.tl .hd)) hx) (fun x hx m hm => ?_)
  rcases List.mem_or_eq_of_mem_set hx with hx | rfl
  · exact rd_to (.tl (.tl (.tl .hd))) (hT x hx) hm
  · rcases List.mem_append.1 hm with hm | hm
    · exact rd_to (.tl (.tl (.tl .hd))) (hT _ (List.getElem_mem hp)) hm
    · obtain rfl := List.mem_singleton.1 hm
      exact Rd.box (l := [t]) (.tl (.tl (.tl (.tl .hd)))) rfl
/-- A copy, without the first move. -/
theorem own_c {A : Option Addr} {c p : Nat} {goal : List Bool} {B : Option Addr} {d : Nat} {ms : List Ml} {Lt : List Res} (hp : p < ms.length) (hc : ms[p].l.length ≤ ms[p].c) (hT : HasT ms Lt) :
    OwnG w0 (setM ⟨A, c, goal, B, d, ms⟩ p ⟨if ms[p].c = 1 then ms[p].A else ms[p].A.map (·.add 2), ms[p].c - 1, ms[p].l.drop 1⟩) [rowR boolE 4 A c goal, rowR mlE 38 B d (ms.set p ⟨if ms[p].c = 1 then ms[p].A else ms[p].A.map (·.add 2), ms[p].c - 1, ms[p].l.drop 1⟩), bigR (ms.map mlR), bigR Lt] := by
  refine OwnG.mk fun Rt => own_grd _ (Rd.own .hd) (Rd.own (.tl .hd)) (fun x hx => ?_) (fun x hx m hm => ?_)
  · rcases List.mem_or_eq_of_mem_set hx with hx | rfl
    · exact rd_ml (.tl (.tl .hd)) hx
    · exact (rd_ml (.tl (.tl .hd)) (List.getElem_mem hp)).dropIf (k := 1) hc
  · rcases List.mem_or_eq_of_mem_set hx with hx | rfl
    · exact rd_to (.tl (.tl (.tl .hd))) (hT x hx) hm
    · exact rd_to (.tl (.tl (.tl .hd))) (hT _ (List.getElem_mem hp)) (List.mem_of_mem_drop hm)
/-- A copy, whose first move at p has other answers. -/
theorem own_d {A T : Option Addr} {c tc p : Nat} {a : Int} {to : List Int} {goal : List Bool} {B : Option Addr} {d : Nat} {ms : List Ml} {Lt : List Res} (hp : p < ms.length) (hT : HasT ms Lt) :
    OwnG w0 (setM ⟨A, c, goal, B, d, ms⟩ p ⟨ms[p].A, ms[p].c, ms[p].l.set 0 ⟨a, T, tc, to⟩⟩) [rowR boolE 4 A c goal, rowR mlE 38 B d ms, bigR ((ms.set p ⟨ms[p].A, ms[p].c, ms[p].l.set 0 ⟨a, T, tc, to⟩⟩).map mlR), bigR Lt, rowR iE 3 T tc to] := by
  refine OwnG.mk fun Rt => own_grd _ (Rd.own .hd) (Rd.same (Rd.own (.tl .hd)) ?_) (fun x hx => rd_ml (.tl (.tl .hd)) hx) (fun x hx m hm => ?_)
  · show (ms.set p _).map mlE.enc = ms.map mlE.enc
    apply List.ext_getElem?
    intro i
    rw [List.getElem?_map, List.getElem?_map, List.getElem?_set]
    split
    · rename_i he; subst he
      simp [hp, mlE]
    · rfl
  · rcases List.mem_or_eq_of_mem_set hx with hx | rfl
    · exact rd_to (.tl (.tl (.tl .hd))) (hT x hx) hm
    · rcases List.mem_or_eq_of_mem_set hm with hm | rfl
      · exact rd_to (.tl (.tl (.tl .hd))) (hT _ (List.getElem_mem hp)) hm
      · exact Rd.own (.tl (.tl (.tl (.tl .hd))))
end
theorem clone_ct' (g : Gm) (w0 : World) (F : List Res) (hG : GRd (Sat w0 F) g) (hF : FewP g 1000) :
    Ct Try.prog 25 [gV g] w0 F (fun v Rs' => ∃ A c goal B d ms Lt, v = .agg #[.slice A goal.length c, .slice B ms.length d] ∧ CopyP g ⟨A, c, goal, B, d, ms⟩ ∧ HasT ms Lt ∧ Rs' = rowR boolE 4 A c goal :: rowR mlE 38 B d ms :: bigR (ms.map mlR) :: bigR Lt :: F) :=
  ct_imp (clone_ct g w0 F hG hF) fun v Rs' ⟨h, Lt, h1, h2, h3, h4⟩ => ⟨h.A, h.c, h.goal, h.B, h.d, h.ms, Lt, h1, h2, h3, h4⟩
theorem ranks_val (h : Gm) (n m : Nat) (w0 : World) (F : List Res) (hG : GRd (Sat w0 F) h) (hF : FewP h 1000) (hr : RightP h) (hn : h.goal.length = n) (hm : h.ms.length = m) :
    Ct Try.prog 17 [.agg #[.slice h.A n h.c, .slice h.B m h.d]] w0 F (fun v Rs' => ∃ R c rk, v = .slice R rk.length c ∧ RanksP h rk ∧ rk.length ≤ 1000000 ∧ Rs' = rowR iE 3 R c rk :: F) := by
  subst hn hm
  exact ct_imp (ranks_ct h w0 F hG hF hr) fun v Rs' ⟨R, c, rk, h1, h2, h3⟩ => ⟨R, c, rk, h1, h2, by have := h2.len; have := hF.goal; omega, h3⟩
/-- A turned game: right, few, and held. -/
structure TurnG (w0 : World) (g h : Gm) (n m : Nat) (X : List Res) : Prop where
  own : OwnG w0 h X
  few : FewP h 1000
  right : RightP h
  goal : h.goal.length = n
  ms : h.ms.length = m
  len : h.goal.length = g.goal.length
theorem TurnG.ranks {w0 : World} {g h : Gm} {n m : Nat} {X : List Res} (ht : TurnG w0 g h n m X) (F Rt : List Res) (hp : Pick F (bigR X) Rt) :
    Ct Try.prog 17 [.agg #[.slice h.A n h.c, .slice h.B m h.d]] w0 F (fun v Rs' => ∃ R c rk, v = .slice R rk.length c ∧ RanksP h rk ∧ rk.length ≤ 1000000 ∧ Rs' = rowR iE 3 R c rk :: F) :=
  ranks_val h n m w0 F (ht.own F Rt hp) ht.few ht.right ht.goal ht.ms
end Go.Proofs.Ythakebelpnfinaa

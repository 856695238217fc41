import Derived.Test.YtbonfpoingibhaaD8
import Derived.Test.YtbonfpoingibhaaD3
import Derived.Test.YtbonfpoingibhaaSxO
set_option linter.unusedVariables false
set_option linter.unusedSimpArgs false
set_option maxRecDepth 20000
set_option maxHeartbeats 1000000
namespace Go.Proofs.Ytbonfpoingibhaa
open Go.RowKit Go.Sx Go.Dk
attribute [local irreducible] boxR rowR mapR rngR bytR dskR stampR celR

/-- An act, as it lies. -/
structure Act where
  d : Int
  f : Int
  n : Int
  s : Bs
  A : Option Addr
  c : Nat
  k : List Int
def actE : Enc Act := { enc := fun x => [.int .i64 x.d, .int .i64 x.f, .int .i64 x.n, .string (bs x.s), .slice x.A x.k.length x.c], sz := 5, len := fun _ => rfl, one := fun x v hv => by simp at hv; rcases hv with rfl | rfl | rfl | rfl | rfl <;> rfl, pos := by decide }
abbrev actV (x : Act) : Value := .agg (actE.enc x).toArray
/-- Acts that are read. -/
structure ARd (C : World → Prop) (A : Option Addr) (l : List Act) : Prop where
  rd : Rd C actE A l
  k : ∀ (i : Nat) (hi : i < l.length), Rd C iE l[i].A l[i].k
  n : ∀ (i : Nat) (hi : i < l.length), l[i].n ≤ 9223372036854775807
  len : ∀ (i : Nat) (hi : i < l.length), l[i].s.length ≤ 9223372036854775807 ∧ l[i].k.length ≤ 9223372036854775807
theorem ARd.weak {w0 : World} {Rs Rs' : List Res} {A : Option Addr} {l : List Act} (h : ARd (Sat w0 Rs) A l) (hs : Sub Rs Rs') : ARd (Sat w0 Rs') A l :=
  ⟨h.rd.weak hs, fun i hi => (h.k i hi).weak hs, h.n, h.len⟩
/-- The bounds of few. -/
structure FewP (l : List Act) : Prop where
  len : l.length ≤ 40
  s : ∀ (i : Nat) (hi : i < l.length), l[i].s.length ≤ 300
  k : ∀ (i : Nat) (hi : i < l.length), l[i].k.length ≤ 60
  n : ∀ (i : Nat) (hi : i < l.length), l[i].n ≤ 3000 ∨ 16776916 ≤ l[i].n
def doE (st : DS) (a : Act) : Int :=
  if a.d % 8 = 2 then syncE st a.f else if a.d % 8 = 3 then truncE st a.f a.n else if a.d % 8 = 4 then 0 else if a.d % 8 = 5 then 0 else if a.d % 8 = 6 then 0 else if a.d % 8 = 7 then 0 else writeE st a.f a.n a.s
def doD (st : DS) (a : Act) : DS :=
  if a.d % 8 = 2 then syncD st a.f else if a.d % 8 = 3 then truncD st a.f a.n else if a.d % 8 = 4 then loseD st (a.n % 4) else if a.d % 8 = 5 then armD st a.n a.k else if a.d % 8 = 6 then Dk.crash st a.k else if a.d % 8 = 7 then startD st else writeD st a.f a.n a.s
def playD : DS → List Act → DS
  | st, [] => st
  | st, a :: l => playD (doD st a) l
theorem playD_snoc : ∀ (l : List Act) (st : DS) (a : Act), playD st (l ++ [a]) = doD (playD st l) a
  | [], _, _ => rfl
  | x :: l, st, a => playD_snoc l (doD st x) a
theorem playD_take {l : List Act} {i : Nat} (hi : i < l.length) (st : DS) : playD st (l.take (i + 1)) = doD (playD st (l.take i)) l[i] := by
  rw [List.take_add_one, List.getElem?_eq_getElem hi]
  exact playD_snoc _ _ _
theorem doD_keep {st : DS} {a : Act} {N : Nat} (h : st.keep.length ≤ N) (ha : a.k.length ≤ N) : (doD st a).keep.length ≤ N := by
  unfold doD
  split
  · rw [syncD_keep]; exact h
  split
  · rw [truncD_keep]; exact h
  split
  · exact h
  split
  · exact ha
  split
  · rw [crash_keep]; exact h
  split
  · exact h
  · rw [writeD_keep]; exact h
theorem playD_keep {N : Nat} : ∀ (l : List Act) (st : DS), st.keep.length ≤ N → (∀ (i : Nat) (hi : i < l.length), l[i].k.length ≤ N) → (playD st l).keep.length ≤ N
  | [], _, h, _ => h
  | a :: l, st, h, hk => playD_keep l (doD st a) (doD_keep h (hk 0 (Nat.zero_lt_succ _))) fun i hi => hk (i + 1) (by simpa using hi)
/-- A disk with its list of what survives. -/
def dkR (b : Nat) (st : DS) : Res := exR fun g : Option Addr × Nat => [dskR b g.1 g.2 st, rowR iE 3 g.1 g.2 st.keep]
section
variable {b : Nat} {st : DS} {w0 w : World} {X : List Res}
theorem dk_out (h : Sat w0 (dkR b st :: X) w) : ∃ K kc, Sat w0 (dskR b K kc st :: rowR iE 3 K kc st.keep :: X) w := by
  obtain ⟨g, h⟩ := Sat.ex_out (f := fun g : Option Addr × Nat => [dskR b g.1 g.2 st, rowR iE 3 g.1 g.2 st.keep]) h
  exact ⟨g.1, g.2, h⟩
theorem dk_in {K : Option Addr} {kc : Nat} (h : Sat w0 (dskR b K kc st :: rowR iE 3 K kc st.keep :: X) w) : Sat w0 (dkR b st :: X) w :=
  Sat.ex_in (f := fun g : Option Addr × Nat => [dskR b g.1 g.2 st, rowR iE 3 g.1 g.2 st.keep]) (K, kc) h
end
attribute [local irreducible] dkR
section
variable (b : Nat) (st : DS) (w0 : World) (F : List Res)
def mk12_D9 : List (Nat × Nat) := [(0, 3), (1, 9), (2, 9), (3, 137), (4, 9), (5, 137), (6, 9), (7, 137), (8, 9), (9, 137), (10, 9), (11, 137), (12, 9), (13, 137), (14, 1), (15, 0)]
theorem do_ct (a : Act) (hkl : st.keep.length ≤ 1000000) (hk : Rd (Sat w0 F) iE a.A a.k) (hkn : a.k.length ≤ 1000000) (hs : a.s.length ≤ 1000000) (hn : a.n ≤ 9223372036854775807) : Ct Try.prog 12 [dP b, actV a] w0 (dkR b st :: F) (fun v Rs' => v = .int .i64 (doE st a) ∧ Rs' = dkR b (doD st a) :: F) := by
  refine ct_enter 55 Try.func12 rfl rfl (by simp) fun w hS => ?_
  obtain ⟨K, kc, hS⟩ := dk_out hS
  have hn0 : a.A = none → a.k = [] := fun e => by
    rcases Nat.eq_zero_or_pos a.k.length with h | h
    · exact List.eq_nil_of_length_eq_zero h
    · obtain ⟨ad, h2⟩ := (hk.weakA (Rs' := dskR b K kc st :: rowR iE 3 K kc st.keep :: F)).addr hS h
      rw [e] at h2; cases h2
  by_cases h2 : a.d % 8 = 2
  · (repeat (first | (show WL _ _ _ (⟨_, _, _, _, _, none⟩ :: _) _ _ _; (first | refine w_mv hS ?_ | refine w_as hS ?_ | (show WL _ _ _ (⟨some _, .load _ _, _, _, _, none⟩ :: _) _ _ _; (first | refine w_ld hS ?_ | fail)) | (show WL _ _ _ (⟨some _, .binOp _ _ _ _ _, _, _, _, none⟩ :: _) _ _ _; (first | refine wyU hS (by first | (show Yld _ _ _ _ ⟨_, .binOp .and _ _ _ _, _, _, _, _⟩ _; exact y_and rfl rfl (and7 _)) | fail) ?_ | refine w_band hS ?_ | refine w_beql hS ?_ | fail)) | (show WL _ _ _ (⟨_, .call _, _, _, _, none⟩ :: _) _ _ _; (first | (show WL _ _ _ (⟨some _, .call ⟨.value (.func 19), _, _⟩, _, _, _, _⟩ :: _) _ _ _; refine w_cl hS rfl (sync_ct b K kc st _ (rowR iE 3 K kc st.keep :: F) Rd.ownA hkl _) ?_; (try clear hS); (try clear w); rintro _ _ w ⟨rfl, rfl⟩ hS) | fail)) | (show WL _ _ _ (⟨some _, .fieldAddr _ _ _, _, _, _, none⟩ :: _) _ _ _; refine w_fa hS ?_) | (show WL _ _ _ (⟨some _, .box _ _, _, _, _, none⟩ :: _) _ _ _; first | (show WL _ _ _ (⟨some 3, .box _ _, _, _, _, none⟩ :: _) _ _ _; (refine w_boxA hS ?_; (try clear hS); (try clear w); intro b3 w hS)) | fail) | fail)) | refine wnil ?_ | (show WC _ _ _ _ _ _; (first | refine f_seq ?_ | (refine f_sig fun σ hσ => ?_; first | (refine r_g mk12_D9 hσ ?_; clear hσ)) | refine f_skip ?_ | refine f_block ?_ | refine f_exit ?_ | refine f_ret ?_ | refine c_t1 ?_ | refine c_f1 ?_ | refine c_t2 ?_ | refine c_f2 ?_ | fail)) | (show WQ _ _ _ _ _ _; (first | refine x_n ?_ | refine fin_norm ?_ | refine x_b ?_ | refine x_te ?_ | refine x_be ?_ | refine x_tr ?_ | refine x_br ?_ | refine x_le ?_ | refine x_lr ?_ | fail)) | fail))
    have e2 : (syncD st a.f).keep = st.keep := syncD_keep st a.f
    exact fin1 rfl (rdv_tmp (v := .int _ _) rfl) (Rs := dkR b (doD st a) :: F) (by rw [doD, if_pos h2]; exact dk_in (K := K) (kc := kc) (by rw [e2]; exact hS.subA)) ⟨by rw [doE, if_pos h2], rfl⟩
  by_cases h3 : a.d % 8 = 3
  · (repeat (first | (show WL _ _ _ (⟨_, _, _, _, _, none⟩ :: _) _ _ _; (first | refine w_mv hS ?_ | refine w_as hS ?_ | (show WL _ _ _ (⟨some _, .load _ _, _, _, _, none⟩ :: _) _ _ _; (first | refine w_ld hS ?_ | fail)) | (show WL _ _ _ (⟨some _, .binOp _ _ _ _ _, _, _, _, none⟩ :: _) _ _ _; (first | refine wyU hS (by first | (show Yld _ _ _ _ ⟨_, .binOp .and _ _ _ _, _, _, _, _⟩ _; exact y_and rfl rfl (and7 _)) | fail) ?_ | refine w_band hS ?_ | refine w_beql hS ?_ | fail)) | (show WL _ _ _ (⟨_, .call _, _, _, _, none⟩ :: _) _ _ _; (first | (show WL _ _ _ (⟨some _, .call ⟨.value (.func 30), _, _⟩, _, _, _, _⟩ :: _) _ _ _; refine w_cl hS rfl (trunc_ct b K kc st _ (rowR iE 3 K kc st.keep :: F) Rd.ownA hkl _ _) ?_; (try clear hS); (try clear w); rintro _ _ w ⟨rfl, rfl⟩ hS) | fail)) | (show WL _ _ _ (⟨some _, .fieldAddr _ _ _, _, _, _, none⟩ :: _) _ _ _; refine w_fa hS ?_) | (show WL _ _ _ (⟨some _, .box _ _, _, _, _, none⟩ :: _) _ _ _; first | (show WL _ _ _ (⟨some 3, .box _ _, _, _, _, none⟩ :: _) _ _ _; (refine w_boxA hS ?_; (try clear hS); (try clear w); intro b3 w hS)) | fail) | fail)) | refine wnil ?_ | (show WC _ _ _ _ _ _; (first | refine f_seq ?_ | (refine f_sig fun σ hσ => ?_; first | (refine r_g mk12_D9 hσ ?_; clear hσ)) | refine f_skip ?_ | refine f_block ?_ | refine f_exit ?_ | refine f_ret ?_ | refine c_t1 ?_ | refine c_f1 ?_ | refine c_t2 ?_ | refine c_f2 ?_ | fail)) | (show WQ _ _ _ _ _ _; (first | refine x_n ?_ | refine fin_norm ?_ | refine x_b ?_ | refine x_te ?_ | refine x_be ?_ | refine x_tr ?_ | refine x_br ?_ | refine x_le ?_ | refine x_lr ?_ | fail)) | fail))
    have e2 : (truncD st a.f a.n).keep = st.keep := truncD_keep st a.f a.n
    exact fin1 rfl (rdv_tmp (v := .int _ _) rfl) (Rs := dkR b (doD st a) :: F) (by rw [doD, if_neg h2, if_pos h3]; exact dk_in (K := K) (kc := kc) (by rw [e2]; exact hS.subA)) ⟨by rw [doE, if_neg h2, if_pos h3], rfl⟩
  by_cases h4 : a.d % 8 = 4
  · have h4' : a.n % 4 ≤ 9223372036854775807 := by omega
    (repeat (first | (show WL _ _ _ (⟨_, _, _, _, _, none⟩ :: _) _ _ _; (first | refine w_mv hS ?_ | refine w_as hS ?_ | (show WL _ _ _ (⟨some _, .load _ _, _, _, _, none⟩ :: _) _ _ _; (first | refine w_ld hS ?_ | fail)) | (show WL _ _ _ (⟨some _, .binOp _ _ _ _ _, _, _, _, none⟩ :: _) _ _ _; (first | refine wyU hS (by first | (show Yld _ _ _ _ ⟨_, .binOp .and _ _ _ _, _, _, _, _⟩ _; first | exact y_and rfl rfl (and7 _) | exact y_and rfl rfl (and3 _)) | fail) ?_ | refine w_band hS ?_ | refine w_beql hS ?_ | fail)) | (show WL _ _ _ (⟨_, .call _, _, _, _, none⟩ :: _) _ _ _; (first | (show WL _ _ _ (⟨some _, .call ⟨.value (.func 31), _, _⟩, _, _, _, _⟩ :: _) _ _ _; refine w_cl hS rfl (lose_ct b K kc st _ (rowR iE 3 K kc st.keep :: F) _ h4') ?_; (try clear hS); (try clear w); rintro _ _ w ⟨rfl, rfl⟩ hS) | fail)) | (show WL _ _ _ (⟨some _, .fieldAddr _ _ _, _, _, _, none⟩ :: _) _ _ _; refine w_fa hS ?_) | (show WL _ _ _ (⟨some _, .box _ _, _, _, _, none⟩ :: _) _ _ _; first | (show WL _ _ _ (⟨some 3, .box _ _, _, _, _, none⟩ :: _) _ _ _; (refine w_boxA hS ?_; (try clear hS); (try clear w); intro b3 w hS)) | fail) | fail)) | refine wnil ?_ | (show WC _ _ _ _ _ _; (first | refine f_seq ?_ | (refine f_sig fun σ hσ => ?_; first | (refine r_g mk12_D9 hσ ?_; clear hσ)) | refine f_skip ?_ | refine f_block ?_ | refine f_exit ?_ | refine f_ret ?_ | refine c_t1 ?_ | refine c_f1 ?_ | refine c_t2 ?_ | refine c_f2 ?_ | fail)) | (show WQ _ _ _ _ _ _; (first | refine x_n ?_ | refine fin_norm ?_ | refine x_b ?_ | refine x_te ?_ | refine x_be ?_ | refine x_tr ?_ | refine x_br ?_ | refine x_le ?_ | refine x_lr ?_ | fail)) | fail))
    exact fin1 rfl (rdv_tmp (v := .int _ _) rfl) (Rs := dkR b (doD st a) :: F) (by rw [doD, if_neg h2, if_neg h3, if_pos h4]; exact dk_in (K := K) (kc := kc) hS.subA) ⟨by rw [doE, if_neg h2, if_neg h3, if_pos h4], rfl⟩
  by_cases h5 : a.d % 8 = 5
  · (repeat (first | (show WL _ _ _ (⟨_, _, _, _, _, none⟩ :: _) _ _ _; (first | refine w_mv hS ?_ | refine w_as hS ?_ | (show WL _ _ _ (⟨some _, .load _ _, _, _, _, none⟩ :: _) _ _ _; (first | refine w_ld hS ?_ | fail)) | (show WL _ _ _ (⟨some _, .binOp _ _ _ _ _, _, _, _, none⟩ :: _) _ _ _; (first | refine wyU hS (by first | (show Yld _ _ _ _ ⟨_, .binOp .and _ _ _ _, _, _, _, _⟩ _; exact y_and rfl rfl (and7 _)) | fail) ?_ | refine w_band hS ?_ | refine w_beql hS ?_ | fail)) | (show WL _ _ _ (⟨_, .call _, _, _, _, none⟩ :: _) _ _ _; (first | (show WL _ _ _ (⟨some _, .call ⟨.value (.func 27), _, _⟩, _, _, _, _⟩ :: _) _ _ _; refine w_cl hS rfl (arm_ct b K kc st _ (rowR iE 3 K kc st.keep :: F) _ _ _ _ hk.weakA hkn hn0 hn) ?_; (try clear hS); (try clear w); rintro _ _ w ⟨K2, kc2, rfl, rfl⟩ hS) | fail)) | (show WL _ _ _ (⟨some _, .fieldAddr _ _ _, _, _, _, none⟩ :: _) _ _ _; refine w_fa hS ?_) | (show WL _ _ _ (⟨some _, .box _ _, _, _, _, none⟩ :: _) _ _ _; first | (show WL _ _ _ (⟨some 3, .box _ _, _, _, _, none⟩ :: _) _ _ _; (refine w_boxA hS ?_; (try clear hS); (try clear w); intro b3 w hS)) | fail) | fail)) | refine wnil ?_ | (show WC _ _ _ _ _ _; (first | refine f_seq ?_ | (refine f_sig fun σ hσ => ?_; first | (refine r_g mk12_D9 hσ ?_; clear hσ)) | refine f_skip ?_ | refine f_block ?_ | refine f_exit ?_ | refine f_ret ?_ | refine c_t1 ?_ | refine c_f1 ?_ | refine c_t2 ?_ | refine c_f2 ?_ | fail)) | (show WQ _ _ _ _ _ _; (first | refine x_n ?_ | refine fin_norm ?_ | refine x_b ?_ | refine x_te ?_ | refine x_be ?_ | refine x_tr ?_ | refine x_br ?_ | refine x_le ?_ | refine x_lr ?_ | fail)) | fail))
    exact fin1 rfl (rdv_tmp (v := .int _ _) rfl) (Rs := dkR b (doD st a) :: F) (by rw [doD, if_neg h2, if_neg h3, if_neg h4, if_pos h5]; exact dk_in (K := K2) (kc := kc2) hS.subA) ⟨by rw [doE, if_neg h2, if_neg h3, if_neg h4, if_pos h5], rfl⟩
  by_cases h6 : a.d % 8 = 6
  · (repeat (first | (show WL _ _ _ (⟨_, _, _, _, _, none⟩ :: _) _ _ _; (first | refine w_mv hS ?_ | refine w_as hS ?_ | (show WL _ _ _ (⟨some _, .load _ _, _, _, _, none⟩ :: _) _ _ _; (first | refine w_ld hS ?_ | fail)) | (show WL _ _ _ (⟨some _, .binOp _ _ _ _ _, _, _, _, none⟩ :: _) _ _ _; (first | refine wyU hS (by first | (show Yld _ _ _ _ ⟨_, .binOp .and _ _ _ _, _, _, _, _⟩ _; exact y_and rfl rfl (and7 _)) | fail) ?_ | refine w_band hS ?_ | refine w_beql hS ?_ | fail)) | (show WL _ _ _ (⟨_, .call _, _, _, _, none⟩ :: _) _ _ _; (first | (show WL _ _ _ (⟨some _, .call ⟨.value (.func 25), _, _⟩, _, _, _, _⟩ :: _) _ _ _; refine w_cl hS rfl (crash_ct b K kc st _ (rowR iE 3 K kc st.keep :: F) _ _ _ hk.weakA hkn) ?_; (try clear hS); (try clear w); rintro _ _ w ⟨rfl, rfl⟩ hS) | fail)) | (show WL _ _ _ (⟨some _, .fieldAddr _ _ _, _, _, _, none⟩ :: _) _ _ _; refine w_fa hS ?_) | (show WL _ _ _ (⟨some _, .box _ _, _, _, _, none⟩ :: _) _ _ _; first | (show WL _ _ _ (⟨some 3, .box _ _, _, _, _, none⟩ :: _) _ _ _; (refine w_boxA hS ?_; (try clear hS); (try clear w); intro b3 w hS)) | fail) | fail)) | refine wnil ?_ | (show WC _ _ _ _ _ _; (first | refine f_seq ?_ | (refine f_sig fun σ hσ => ?_; first | (refine r_g mk12_D9 hσ ?_; clear hσ)) | refine f_skip ?_ | refine f_block ?_ | refine f_exit ?_ | refine f_ret ?_ | refine c_t1 ?_ | refine c_f1 ?_ | refine c_t2 ?_ | refine c_f2 ?_ | fail)) | (show WQ _ _ _ _ _ _; (first | refine x_n ?_ | refine fin_norm ?_ | refine x_b ?_ | refine x_te ?_ | refine x_be ?_ | refine x_tr ?_ | refine x_br ?_ | refine x_le ?_ | refine x_lr ?_ | fail)) | fail))
    have e2 : (Dk.crash st a.k).keep = st.keep := crash_keep st a.k
    exact fin1 rfl (rdv_tmp (v := .int _ _) rfl) (Rs := dkR b (doD st a) :: F) (by rw [doD, if_neg h2, if_neg h3, if_neg h4, if_neg h5, if_pos h6]; exact dk_in (K := K) (kc := kc) (by rw [e2]; exact hS.subA)) ⟨by rw [doE, if_neg h2, if_neg h3, if_neg h4, if_neg h5, if_pos h6], rfl⟩
  by_cases h7 : a.d % 8 = 7
  · (repeat (first | (show WL _ _ _ (⟨_, _, _, _, _, none⟩ :: _) _ _ _; (first | refine w_mv hS ?_ | refine w_as hS ?_ | (show WL _ _ _ (⟨some _, .load _ _, _, _, _, none⟩ :: _) _ _ _; (first | refine w_ld hS ?_ | fail)) | (show WL _ _ _ (⟨some _, .binOp _ _ _ _ _, _, _, _, none⟩ :: _) _ _ _; (first | refine wyU hS (by first | (show Yld _ _ _ _ ⟨_, .binOp .and _ _ _ _, _, _, _, _⟩ _; exact y_and rfl rfl (and7 _)) | fail) ?_ | refine w_band hS ?_ | refine w_beql hS ?_ | fail)) | (show WL _ _ _ (⟨_, .call _, _, _, _, none⟩ :: _) _ _ _; (first | (show WL _ _ _ (⟨some _, .call ⟨.value (.func 26), _, _⟩, _, _, _, _⟩ :: _) _ _ _; refine w_cl hS rfl (start_ct b K kc st _ (rowR iE 3 K kc st.keep :: F)) ?_; (try clear hS); (try clear w); rintro _ _ w ⟨rfl, rfl⟩ hS) | fail)) | (show WL _ _ _ (⟨some _, .fieldAddr _ _ _, _, _, _, none⟩ :: _) _ _ _; refine w_fa hS ?_) | (show WL _ _ _ (⟨some _, .box _ _, _, _, _, none⟩ :: _) _ _ _; first | (show WL _ _ _ (⟨some 3, .box _ _, _, _, _, none⟩ :: _) _ _ _; (refine w_boxA hS ?_; (try clear hS); (try clear w); intro b3 w hS)) | fail) | fail)) | refine wnil ?_ | (show WC _ _ _ _ _ _; (first | refine f_seq ?_ | (refine f_sig fun σ hσ => ?_; first | (refine r_g mk12_D9 hσ ?_; clear hσ)) | refine f_skip ?_ | refine f_block ?_ | refine f_exit ?_ | refine f_ret ?_ | refine c_t1 ?_ | refine c_f1 ?_ | refine c_t2 ?_ | refine c_f2 ?_ | fail)) | (show WQ _ _ _ _ _ _; (first | refine x_n ?_ | refine fin_norm ?_ | refine x_b ?_ | refine x_te ?_ | refine x_be ?_ | refine x_tr ?_ | refine x_br ?_ | refine x_le ?_ | refine x_lr ?_ | fail)) | fail))
    exact fin1 rfl (rdv_tmp (v := .int _ _) rfl) (Rs := dkR b (doD st a) :: F) (by rw [doD, if_neg h2, if_neg h3, if_neg h4, if_neg h5, if_neg h6, if_pos h7]; exact dk_in (K := K) (kc := kc) hS.subA) ⟨by rw [doE, if_neg h2, if_neg h3, if_neg h4, if_neg h5, if_neg h6, if_pos h7], rfl⟩
  · (repeat (first | (show WL _ _ _ (⟨_, _, _, _, _, none⟩ :: _) _ _ _; (first | refine w_mv hS ?_ | refine w_as hS ?_ | (show WL _ _ _ (⟨some _, .load _ _, _, _, _, none⟩ :: _) _ _ _; (first | refine w_ld hS ?_ | fail)) | (show WL _ _ _ (⟨some _, .binOp _ _ _ _ _, _, _, _, none⟩ :: _) _ _ _; (first | refine wyU hS (by first | (show Yld _ _ _ _ ⟨_, .binOp .and _ _ _ _, _, _, _, _⟩ _; exact y_and rfl rfl (and7 _)) | fail) ?_ | refine w_band hS ?_ | refine w_beql hS ?_ | fail)) | (show WL _ _ _ (⟨_, .call _, _, _, _, none⟩ :: _) _ _ _; (first | (show WL _ _ _ (⟨some _, .call ⟨.value (.func 29), _, _⟩, _, _, _, _⟩ :: _) _ _ _; refine w_cl hS rfl (write_ct b K kc st _ (rowR iE 3 K kc st.keep :: F) Rd.ownA hkl _ _ _ (by omega)) ?_; (try clear hS); (try clear w); rintro _ _ w ⟨rfl, rfl⟩ hS) | fail)) | (show WL _ _ _ (⟨some _, .fieldAddr _ _ _, _, _, _, none⟩ :: _) _ _ _; refine w_fa hS ?_) | (show WL _ _ _ (⟨some _, .box _ _, _, _, _, none⟩ :: _) _ _ _; first | (show WL _ _ _ (⟨some 3, .box _ _, _, _, _, none⟩ :: _) _ _ _; (refine w_boxA hS ?_; (try clear hS); (try clear w); intro b3 w hS)) | fail) | fail)) | refine wnil ?_ | (show WC _ _ _ _ _ _; (first | refine f_seq ?_ | (refine f_sig fun σ hσ => ?_; first | (refine r_g mk12_D9 hσ ?_; clear hσ)) | refine f_skip ?_ | refine f_block ?_ | refine f_exit ?_ | refine f_ret ?_ | refine c_t1 ?_ | refine c_f1 ?_ | refine c_t2 ?_ | refine c_f2 ?_ | fail)) | (show WQ _ _ _ _ _ _; (first | refine x_n ?_ | refine fin_norm ?_ | refine x_b ?_ | refine x_te ?_ | refine x_be ?_ | refine x_tr ?_ | refine x_br ?_ | refine x_le ?_ | refine x_lr ?_ | fail)) | fail))
    have e2 : (writeD st a.f a.n a.s).keep = st.keep := writeD_keep st a.f a.n a.s
    exact fin1 rfl (rdv_tmp (v := .int _ _) rfl) (Rs := dkR b (doD st a) :: F) (by rw [doD, if_neg h2, if_neg h3, if_neg h4, if_neg h5, if_neg h6, if_neg h7]; exact dk_in (K := K) (kc := kc) (by rw [e2]; exact hS.subA)) ⟨by rw [doE, if_neg h2, if_neg h3, if_neg h4, if_neg h5, if_neg h6, if_neg h7], rfl⟩
end
end Go.Proofs.Ytbonfpoingibhaa

import Derived.Test.YtbonfpoingibhaaD9
set_option linter.unusedVariables false
set_option linter.unusedSimpArgs false
set_option maxRecDepth 20000
set_option maxHeartbeats 1000000
namespace Go.Proofs.Ytbonfpoingibhaa
open Go.RowKit Go.Sx Go.Dk
attribute [local irreducible] boxR rowR mapR rngR bytR dskR stampR celR dkR

theorem bs_def (l : Bs) : bs l = ⟨l.toArray⟩ := by unfold bs; rfl
section
variable {st st' : DS} {e : Int} (b : Nat) (w0 : World) (F : List Res)
theorem k_write {f a : Int} (s : Bs) (hk : st.keep = []) (he : writeE st f a s = e) (hd : writeD st f a s = st') (hs : s.length ≤ 9223372036854775807) : Ct Try.prog 29 [dP b, .int .i64 f, .int .i64 a, .string ⟨s.toArray⟩] w0 (dskR b none 0 st :: F) (fun v Rs' => v = .int .i64 e ∧ Rs' = dskR b none 0 st' :: F) := by
  subst he hd
  have := write_ct b none 0 st w0 F (by rw [hk]; exact Rd.empty) (by rw [hk]; exact Nat.zero_le _) f a s hs
  rw [bs_def] at this
  exact this
theorem k_sync {f : Int} (hk : st.keep = []) (he : syncE st f = e) (hd : syncD st f = st') : Ct Try.prog 19 [dP b, .int .i64 f] w0 (dskR b none 0 st :: F) (fun v Rs' => v = .int .i64 e ∧ Rs' = dskR b none 0 st' :: F) := by
  subst he hd
  exact sync_ct b none 0 st w0 F (by rw [hk]; exact Rd.empty) (by rw [hk]; exact Nat.zero_le _) f
theorem k_crash (c : Nat) (cs : List Value) (T : TypeId) (keep : List Int) (hc : cs = iE.all keep) (n : Nat) (hn : keep.length = n) (hn2 : n ≤ 1000000) (hd : Dk.crash st keep = st') : Ct Try.prog 25 [dP b, .slice (some ⟨c, 0, none⟩) n n] w0 (dskR b none 0 st :: boxR c cs T :: F) (fun v Rs' => v = .tuple #[] ∧ Rs' = dskR b none 0 st' :: boxR c cs T :: F) := by
  subst hd hn
  exact crash_ct b none 0 st w0 (boxR c cs T :: F) _ _ keep (Rd.box .hd hc) hn2
theorem k_read {f a n : Int} (x : Bs) (he : readE st f a n = e) (hx : readB st f a n = x) : Ct Try.prog 20 [dP b, .int .i64 f, .int .i64 a, .int .i64 n] w0 (dskR b none 0 st :: F) (fun v Rs' => v = .tuple #[.string (bs x), .int .i64 e] ∧ Rs' = dskR b none 0 st :: F) := by
  subst he hx
  exact read_ct b none 0 st w0 F f a n
end
def m1 : DS := writeD st0 0 0 [97, 98, 99]
def m2 : DS := syncD m1 0
def m3 : DS := writeD m2 0 1 [88, 89]
def m4 : DS := Dk.crash m3 [1]
def m5 : DS := startD m4
def n1 : DS := Dk.crash m3 [0]
def n2 : DS := startD n1
def n3 : DS := writeD n2 1 62 [97, 98, 99, 100]
def n4 : DS := Dk.crash n3 [0, 1]
def n5 : DS := startD n4
def n6 : DS := writeD n5 16 0 []
def n7 : DS := writeD n6 1 16777216 [97]
theorem m1k : m1.keep = [] := writeD_keep _ _ _ _
theorem m2k : m2.keep = [] := (syncD_keep _ _).trans m1k
theorem m3k : m3.keep = [] := (writeD_keep _ _ _ _).trans m2k
theorem n2k : n2.keep = [] := (crash_keep m3 [0]).trans m3k
theorem n3k : n3.keep = [] := (writeD_keep _ _ _ _).trans n2k
theorem n5k : n5.keep = [] := (crash_keep n3 [0, 1]).trans n3k
theorem n6k : n6.keep = [] := (writeD_keep _ _ _ _).trans n5k
theorem q1 : writeE st0 0 0 [97, 98, 99] = 0 := by decide +kernel
theorem q2 : syncE m1 0 = 0 := by decide +kernel
theorem q3 : writeE m2 0 1 [88, 89] = 0 := by decide +kernel
theorem q4 : m4.down = true := by decide +kernel
theorem q5 : readE m4 0 0 9 = 9 := by decide +kernel
theorem q5b : readB m4 0 0 9 = [] := by decide +kernel
theorem q6 : readE m5 0 0 9 = 0 := by decide +kernel
theorem q6b : readB m5 0 0 9 = [97, 88, 89] := by decide +kernel
theorem q7 : readE n2 0 1 9 = 0 := by decide +kernel
theorem q7b : readB n2 0 1 9 = [98, 99] := by decide +kernel
theorem q8 : writeE n2 1 62 [97, 98, 99, 100] = 0 := by decide +kernel
theorem q9 : readE n5 1 60 100 = 0 := by decide +kernel
theorem q9b : readB n5 1 60 100 = [0, 0, 0, 0, 99, 100] := by decide +kernel
theorem q10 : ((n5.files 1).now.length : Int) = 66 := by decide +kernel
theorem q11 : writeE n5 16 0 [] = 1 := by decide +kernel
theorem q12 : writeE n6 1 16777216 [97] = 6 := by decide +kernel
theorem k_size {st : DS} {e : Int} (b : Nat) (w0 : World) (F : List Res) {f : Int} (he : ((st.files f).now.length : Int) = e) : Ct Try.prog 16 [dP b, .int .i64 f] w0 (dskR b none 0 st :: F) (fun v Rs' => v = .int .i64 e ∧ Rs' = dskR b none 0 st :: F) := by
  subst he
  exact size_ct b none 0 st w0 F f
theorem y_eqsK {P : Program} {C : World → Prop} {n : Nat} {ρ : Env} {ty : TypeId} {pos : String} {after : Array Edge} {g : Option (Nat × Bool)} {x y : Operand} {t u : TypeId} {dst : Option Nat} {l l' : Bs} (hx : ev n ρ x = .string (bs l)) (hy : ev n ρ y = .string ⟨l'.toArray⟩) : Yld P C n ρ ⟨dst, .binOp .eql t x y u, ty, pos, after, g⟩ (.bool (decide (l = l'))) := y_eqsB hx (by rw [hy]; exact congrArg Value.string (bs_def l').symm)

def mk8_D11 : List (Nat × Nat) := [(0, 0), (1, 0), (2, 2), (3, 0), (4, 2), (5, 6), (6, 14), (7, 14), (8, 30), (9, 0), (10, 30), (11, 30), (12, 62), (13, 190), (14, 190), (15, 956), (16, 956), (17, 956), (18, 4028), (19, 8124), (20, 8124), (21, 8124), (22, 32700), (23, 57360)]
theorem small_ct (w0 : World) (F : List Res) : Ct Try.prog 8 [] w0 F (fun v Rs' => v = .bool true ∧ F = Rs') := by
  refine ct_enter 125 Try.func8 rfl rfl (by simp) fun w hS => ?_
  (repeat (first | (show WL _ _ _ (⟨_, _, _, _, _, none⟩ :: _) _ _ _; (first | (show WL _ _ _ (⟨some 16, .call _, _, _, _, _⟩ :: _) _ _ _; refine w_cl hS rfl (new_ct w0 F) ?_; (try clear hS); (try clear w); rintro _ _ w ⟨b16, rfl, rfl⟩ hS) | (show WL _ _ _ (⟨some 20, .call _, _, _, _, _⟩ :: _) _ _ _; refine w_cl hS rfl (k_write b16 w0 F [97, 98, 99] rfl q1 (st' := m1) rfl (by decide)) ?_; (try clear hS); (try clear w); rintro _ _ w ⟨rfl, rfl⟩ hS) | (show WL _ _ _ (⟨some 22, .call _, _, _, _, _⟩ :: _) _ _ _; refine w_cl hS rfl (k_sync b16 w0 F m1k q2 (st' := m2) rfl) ?_; (try clear hS); (try clear w); rintro _ _ w ⟨rfl, rfl⟩ hS) | (show WL _ _ _ (⟨some 24, .call _, _, _, _, _⟩ :: _) _ _ _; refine w_cl hS rfl (k_write b16 w0 F [88, 89] m2k q3 (st' := m3) rfl (by decide)) ?_; (try clear hS); (try clear w); rintro _ _ w ⟨rfl, rfl⟩ hS) | (show WL _ _ _ (⟨some 26, .call _, _, _, _, _⟩ :: _) _ _ _; refine w_cl hS rfl (copy_ct b16 none 0 m3 w0 F) ?_; (try clear hS); (try clear w); rintro _ _ w ⟨b26, rfl, rfl⟩ hS) | (show WL _ _ _ (⟨some 31, .call _, _, _, _, _⟩ :: _) _ _ _; refine w_cl hS rfl (k_crash b16 w0 (dskR b26 none 0 m3 :: F) b30 _ _ [1] rfl 1 rfl (by decide) (st' := m4) rfl) ?_; (try clear hS); (try clear w); rintro _ _ w ⟨rfl, rfl⟩ hS) | (show WL _ _ _ (⟨some 33, .call _, _, _, _, _⟩ :: _) _ _ _; refine w_cl hS rfl (down_ct b16 none 0 m4 w0 (dskR b26 none 0 m3 :: F)) ?_; (try clear hS); (try clear w); rintro _ _ w ⟨rfl, rfl⟩ hS) | (show WL _ _ _ (⟨some 36, .call _, _, _, _, _⟩ :: _) _ _ _; refine w_cl hS rfl (k_read b16 w0 (dskR b26 none 0 m3 :: F) [] q5 q5b) ?_; (try clear hS); (try clear w); rintro _ _ w ⟨rfl, rfl⟩ hS) | (show WL _ _ _ (⟨some 40, .call _, _, _, _, _⟩ :: _) _ _ _; refine w_cl hS rfl (start_ct b16 none 0 m4 w0 (dskR b26 none 0 m3 :: F)) ?_; (try clear hS); (try clear w); rintro _ _ w ⟨rfl, rfl⟩ hS) | (show WL _ _ _ (⟨some 43, .call _, _, _, _, _⟩ :: _) _ _ _; refine w_cl hS rfl (k_read (st := m5) b16 w0 (dskR b26 none 0 m3 :: F) [97, 88, 89] q6 q6b) ?_; (try clear hS); (try clear w); rintro _ _ w ⟨rfl, rfl⟩ hS) | (show WL _ _ _ (⟨some 48, .call _, _, _, _, _⟩ :: _) _ _ _; refine w_cl hS rfl (k_crash b26 w0 F b47 _ _ [0] rfl 1 rfl (by decide) (st' := n1) rfl) ?_; (try clear hS); (try clear w); rintro _ _ w ⟨rfl, rfl⟩ hS) | (show WL _ _ _ (⟨some 50, .call _, _, _, _, _⟩ :: _) _ _ _; refine w_cl hS rfl (start_ct b26 none 0 n1 w0 F) ?_; (try clear hS); (try clear w); rintro _ _ w ⟨rfl, rfl⟩ hS) | (show WL _ _ _ (⟨some 53, .call _, _, _, _, _⟩ :: _) _ _ _; refine w_cl hS rfl (k_read (st := n2) b26 w0 F [98, 99] q7 q7b) ?_; (try clear hS); (try clear w); rintro _ _ w ⟨rfl, rfl⟩ hS) | (show WL _ _ _ (⟨some 57, .call _, _, _, _, _⟩ :: _) _ _ _; refine w_cl hS rfl (k_write (st := n2) b26 w0 F [97, 98, 99, 100] n2k q8 (st' := n3) rfl (by decide)) ?_; (try clear hS); (try clear w); rintro _ _ w ⟨rfl, rfl⟩ hS) | (show WL _ _ _ (⟨some 60, .call _, _, _, _, _⟩ :: _) _ _ _; refine w_cl hS rfl (k_crash b26 w0 F b59 _ _ [0, 1] rfl 2 rfl (by decide) (st' := n4) rfl) ?_; (try clear hS); (try clear w); rintro _ _ w ⟨rfl, rfl⟩ hS) | (show WL _ _ _ (⟨some 62, .call _, _, _, _, _⟩ :: _) _ _ _; refine w_cl hS rfl (start_ct b26 none 0 n4 w0 F) ?_; (try clear hS); (try clear w); rintro _ _ w ⟨rfl, rfl⟩ hS) | (show WL _ _ _ (⟨some 65, .call _, _, _, _, _⟩ :: _) _ _ _; refine w_cl hS rfl (k_read (st := n5) b26 w0 F [0, 0, 0, 0, 99, 100] q9 q9b) ?_; (try clear hS); (try clear w); rintro _ _ w ⟨rfl, rfl⟩ hS) | (show WL _ _ _ (⟨some 112, .call _, _, _, _, _⟩ :: _) _ _ _; refine w_cl hS rfl (k_size b26 w0 F q10) ?_; (try clear hS); (try clear w); rintro _ _ w ⟨rfl, rfl⟩ hS) | (show WL _ _ _ (⟨some 117, .call _, _, _, _, _⟩ :: _) _ _ _; refine w_cl hS rfl (k_write (st := n5) b26 w0 F [] n5k q11 (st' := n6) rfl (by decide)) ?_; (try clear hS); (try clear w); rintro _ _ w ⟨rfl, rfl⟩ hS) | (show WL _ _ _ (⟨some 122, .call _, _, _, _, _⟩ :: _) _ _ _; refine w_cl hS rfl (k_write (st := n6) b26 w0 F [97] n6k q12 (st' := n7) rfl (by decide)) ?_; (try clear hS); (try clear w); rintro _ _ w ⟨rfl, rfl⟩ hS) | refine w_mv hS ?_ | refine w_as hS ?_ | (show WL _ _ _ (⟨some _, .binOp _ _ _ _ _, _, _, _, none⟩ :: _) _ _ _; (first | refine wyU hS (by first | (show Yld _ _ _ _ ⟨_, .binOp .eql _ _ _ _, _, _, _, _⟩ _; exact y_eqsK rfl rfl) | fail) ?_ | refine w_beql hS ?_ | fail)) | (show WL _ _ _ (⟨some _, .pick _ _ _, _, _, _, none⟩ :: _) _ _ _; refine w_pk hS ?_) | (show WL _ _ _ (⟨some _, .extract _ _, _, _, _, none⟩ :: _) _ _ _; refine w_ex hS ?_) | (show WL _ _ _ (⟨some 30, .buildSlice _ _ _, _, _, _, _⟩ :: _) _ _ _; refine w_bsN (vs := [.int .i64 1]) [_] [.int .i64 1] hS ?_; (try clear hS); (try clear w); intro b30 w hS) | (show WL _ _ _ (⟨some 47, .buildSlice _ _ _, _, _, _, _⟩ :: _) _ _ _; refine w_bsN (vs := [.int .i64 0]) [_] [.int .i64 0] hS ?_; (try clear hS); (try clear w); intro b47 w hS) | (show WL _ _ _ (⟨some 59, .buildSlice _ _ _, _, _, _, _⟩ :: _) _ _ _; refine w_bsN (vs := [.int .i64 0, .int .i64 1]) [_, _] [.int .i64 0, .int .i64 1] hS ?_; (try clear hS); (try clear w); intro b59 w hS) | (show WL _ _ _ (⟨some _, .buildSlice _ _ _, _, _, _, none⟩ :: _) _ _ _; first | (show WL _ _ _ (⟨some 30, .buildSlice _ _ _, _, _, _, none⟩ :: _) _ _ _; first | (refine w_bs0 hS ?_; (try clear hS); (try clear w); intro b30 w hS) | (refine w_bs1 hS ?_; (try clear hS); (try clear w); intro b30 w hS)) | (show WL _ _ _ (⟨some 47, .buildSlice _ _ _, _, _, _, none⟩ :: _) _ _ _; first | (refine w_bs0 hS ?_; (try clear hS); (try clear w); intro b47 w hS) | (refine w_bs1 hS ?_; (try clear hS); (try clear w); intro b47 w hS)) | (show WL _ _ _ (⟨some 59, .buildSlice _ _ _, _, _, _, none⟩ :: _) _ _ _; first | (refine w_bs0 hS ?_; (try clear hS); (try clear w); intro b59 w hS) | (refine w_bs1 hS ?_; (try clear hS); (try clear w); intro b59 w hS)) | fail) | fail)) | (show WL _ _ _ (⟨_, _, _, _, _, some _⟩ :: _) _ _ _; (first | refine gskip ?_ | refine grun ?_ | refine gskip0 ?_ | refine grun0 ?_ | refine gtr1 ?_ | refine gts1 ?_ | refine gfr1 ?_ | refine gfs1 ?_ | refine gtr2 ?_ | refine gts2 ?_ | refine gfr2 ?_ | refine gfs2 ?_ | fail)) | refine wnil ?_ | (show WC _ _ _ _ _ _; (first | refine f_seq ?_ | (refine f_sig fun σ hσ => ?_; first | (refine r_g mk8_D11 hσ ?_; clear hσ)) | refine f_skip ?_ | refine f_block ?_ | refine f_exit ?_ | refine f_ret ?_ | refine c_t1 ?_ | refine c_f1 ?_ | refine c_t2 ?_ | refine c_f2 ?_ | fail)) | (show WQ _ _ _ _ _ _; (first | refine x_n ?_ | refine fin_norm ?_ | refine x_b ?_ | refine x_te ?_ | refine x_be ?_ | refine x_tr ?_ | refine x_br ?_ | refine x_le ?_ | refine x_lr ?_ | fail)) | fail))
  exact fin1 rfl (rdv_tmp (v := .bool _) rfl) (Rs := F) (hS.subA) ⟨rfl, rfl⟩
end Go.Proofs.Ytbonfpoingibhaa

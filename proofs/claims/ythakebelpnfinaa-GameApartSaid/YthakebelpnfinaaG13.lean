import Derived.Test.YthakebelpnfinaaG12
import Derived.Test.YthakebelpnfinaaG6
import Derived.Test.YthakebelpnfinaaSxO
set_option linter.unusedVariables false
set_option linter.unusedSimpArgs false
set_option maxRecDepth 20000
set_option maxHeartbeats 1000000
namespace Go.Proofs.Ythakebelpnfinaa
open Go.RowKit Go.Sx
attribute [local irreducible] boxR rowR

theorem ct_imp {f : FuncId} {vs : List Value} {w0 : World} {Rs : List Res} {p q : Value → List Res → Prop} (h : Ct Try.prog f vs w0 Rs p) (hp : ∀ v Rs', p v Rs' → q v Rs') : Ct Try.prog f vs w0 Rs q :=
  ⟨fun w hS => (h.out w hS).mono fun e w' ⟨v, Rs', he, h1, h2⟩ => ⟨v, Rs', he, hp v Rs' h1, h2⟩⟩
/-- The game of the examples. -/
def smpG (a1 a2 a4 a6 a7 a9 a10 a12 a13 : Nat) : Gm :=
  ⟨some ⟨a1, 0, none⟩, 4, [false, false, false, true], some ⟨a13, 0, none⟩, 4,
    [⟨some ⟨a6, 0, none⟩, 2, [⟨0, some ⟨a2, 0, none⟩, 1, [1]⟩, ⟨1, some ⟨a4, 0, none⟩, 2, [1, 2]⟩]⟩, ⟨some ⟨a9, 0, none⟩, 1, [⟨0, some ⟨a7, 0, none⟩, 1, [3]⟩]⟩, ⟨some ⟨a12, 0, none⟩, 1, [⟨5, some ⟨a10, 0, none⟩, 2, [0, 2]⟩]⟩, ⟨none, 0, []⟩]⟩
def mk27_G13 : List (Nat × Nat) := [(0, 0), (1, 1)]
theorem sample_ct (w0 : World) (F : List Res) : Ct Try.prog 27 [] w0 F (fun v Rs' => ∃ a1 a2 a4 a6 a7 a9 a10 a12 a13, v = gV (smpG a1 a2 a4 a6 a7 a9 a10 a12 a13) ∧ Sub F Rs' ∧ GRd (Sat w0 Rs') (smpG a1 a2 a4 a6 a7 a9 a10 a12 a13)) := by
  refine ct_enter 15 Try.func27 rfl rfl (by simp) fun w hS => ?_
  (repeat (first | (show WL _ _ _ (⟨_, _, _, _, _, none⟩ :: _) _ _ _; (first | refine w_mv hS ?_ | refine wyU hS (by first | (show Yld _ _ _ _ ⟨_, .build _ _, _, _, _, _⟩ _; first | exact y_build (bld41_1 _ _ _) rfl | exact y_build (bld41_0_1 _ _ _ _) rfl | exact y_build (bld25_0_1 _ _ _ _ _ _) rfl) | fail) ?_ | (show WL _ _ _ (⟨some 1, .buildSlice _ _ _, _, _, _, _⟩ :: _) _ _ _; refine w_bsN (vs := [.bool false, .bool false, .bool false, .bool true]) [_, _, _, _] [.bool false, .bool false, .bool false, .bool true] hS ?_; (try clear hS); (try clear w); intro b1 w hS) | (show WL _ _ _ (⟨some 4, .buildSlice _ _ _, _, _, _, _⟩ :: _) _ _ _; refine w_bsN (vs := [.int .i64 1, .int .i64 2]) [_, _] [.int .i64 1, .int .i64 2] hS ?_; (try clear hS); (try clear w); intro b4 w hS) | (show WL _ _ _ (⟨some 6, .buildSlice _ _ _, _, _, _, _⟩ :: _) _ _ _; refine w_bsN (vs := [.int .i64 0, .slice (some ⟨b2, 0, none⟩) 1 1, .int .i64 1, .slice (some ⟨b4, 0, none⟩) 2 2]) [_, _] [.agg #[.int .i64 0, .slice (some ⟨b2, 0, none⟩) 1 1], .agg #[.int .i64 1, .slice (some ⟨b4, 0, none⟩) 2 2]] hS ?_; (try clear hS); (try clear w); intro b6 w hS) | (show WL _ _ _ (⟨some 10, .buildSlice _ _ _, _, _, _, _⟩ :: _) _ _ _; refine w_bsN (vs := [.int .i64 0, .int .i64 2]) [_, _] [.int .i64 0, .int .i64 2] hS ?_; (try clear hS); (try clear w); intro b10 w hS) | (show WL _ _ _ (⟨some 13, .buildSlice _ _ _, _, _, _, _⟩ :: _) _ _ _; refine w_bsN (vs := [.slice (some ⟨b6, 0, none⟩) 2 2, .slice (some ⟨b9, 0, none⟩) 1 1, .slice (some ⟨b12, 0, none⟩) 1 1, .slice none 0 0]) [_, _, _, _] [.slice (some ⟨b6, 0, none⟩) 2 2, .slice (some ⟨b9, 0, none⟩) 1 1, .slice (some ⟨b12, 0, none⟩) 1 1, .slice none 0 0] hS ?_; (try clear hS); (try clear w); intro b13 w hS) | (show WL _ _ _ (⟨some _, .alloc _, _, _, _, none⟩ :: _) _ _ _; first | (show WL _ _ _ (⟨some 0, .alloc _, _, _, _, none⟩ :: _) _ _ _; (refine w_allocA hS ?_; (try clear hS); (try clear w); intro b0 w hS)) | fail) | (show WL _ _ _ (⟨none, .store _ _ _, _, _, _, none⟩ :: _) _ _ _; first | (refine w_st1 hS ?_; (try clear hS); (try clear w); intro w hS) | (refine w_stA hS ?_; (try clear hS); (try clear w); intro w hS)) | (show WL _ _ _ (⟨some _, .buildSlice _ _ _, _, _, _, none⟩ :: _) _ _ _; first | (show WL _ _ _ (⟨some 1, .buildSlice _ _ _, _, _, _, none⟩ :: _) _ _ _; first | (refine w_bs0 hS ?_; (try clear hS); (try clear w); intro b1 w hS) | (refine w_bs1 hS ?_; (try clear hS); (try clear w); intro b1 w hS)) | (show WL _ _ _ (⟨some 2, .buildSlice _ _ _, _, _, _, none⟩ :: _) _ _ _; first | (refine w_bs0 hS ?_; (try clear hS); (try clear w); intro b2 w hS) | (refine w_bs1 hS ?_; (try clear hS); (try clear w); intro b2 w hS)) | (show WL _ _ _ (⟨some 4, .buildSlice _ _ _, _, _, _, none⟩ :: _) _ _ _; first | (refine w_bs0 hS ?_; (try clear hS); (try clear w); intro b4 w hS) | (refine w_bs1 hS ?_; (try clear hS); (try clear w); intro b4 w hS)) | (show WL _ _ _ (⟨some 6, .buildSlice _ _ _, _, _, _, none⟩ :: _) _ _ _; first | (refine w_bs0 hS ?_; (try clear hS); (try clear w); intro b6 w hS) | (refine w_bs1 hS ?_; (try clear hS); (try clear w); intro b6 w hS)) | (show WL _ _ _ (⟨some 7, .buildSlice _ _ _, _, _, _, none⟩ :: _) _ _ _; first | (refine w_bs0 hS ?_; (try clear hS); (try clear w); intro b7 w hS) | (refine w_bs1 hS ?_; (try clear hS); (try clear w); intro b7 w hS)) | (show WL _ _ _ (⟨some 9, .buildSlice _ _ _, _, _, _, none⟩ :: _) _ _ _; first | (refine w_bs0 hS ?_; (try clear hS); (try clear w); intro b9 w hS) | (refine w_bs1 hS ?_; (try clear hS); (try clear w); intro b9 w hS)) | (show WL _ _ _ (⟨some 10, .buildSlice _ _ _, _, _, _, none⟩ :: _) _ _ _; first | (refine w_bs0 hS ?_; (try clear hS); (try clear w); intro b10 w hS) | (refine w_bs1 hS ?_; (try clear hS); (try clear w); intro b10 w hS)) | (show WL _ _ _ (⟨some 12, .buildSlice _ _ _, _, _, _, none⟩ :: _) _ _ _; first | (refine w_bs0 hS ?_; (try clear hS); (try clear w); intro b12 w hS) | (refine w_bs1 hS ?_; (try clear hS); (try clear w); intro b12 w hS)) | (show WL _ _ _ (⟨some 13, .buildSlice _ _ _, _, _, _, none⟩ :: _) _ _ _; first | (refine w_bs0 hS ?_; (try clear hS); (try clear w); intro b13 w hS) | (refine w_bs1 hS ?_; (try clear hS); (try clear w); intro b13 w hS)) | fail) | fail)) | refine wnil ?_ | (show WC _ _ _ _ _ _; (first | refine f_seq ?_ | (refine f_sig fun σ hσ => ?_; first | (refine r_g mk27_G13 hσ ?_; clear hσ)) | refine f_skip ?_ | refine f_block ?_ | refine f_exit ?_ | refine f_ret ?_ | refine c_t1 ?_ | refine c_f1 ?_ | refine c_t2 ?_ | refine c_f2 ?_ | fail)) | (show WQ _ _ _ _ _ _; (first | refine x_n ?_ | refine fin_norm ?_ | refine x_b ?_ | refine x_te ?_ | refine x_be ?_ | refine x_tr ?_ | refine x_br ?_ | refine x_le ?_ | refine x_lr ?_ | fail)) | fail))
  refine fin1 rfl (rdv_cell (sz := 2) rfl inferInstance hS (by first | ((with_reducible (repeat (first | exact Pick.hd | apply Pick.tl))); done) | ((repeat (first | exact Pick.hd | apply Pick.tl)); done) | fail) rfl) hS ⟨b1, b2, b4, b6, b7, b9, b10, b12, b13, rfl, (by first | (with_reducible exact Sub.refl) | ((repeat (first | (with_reducible exact Sub.refl) | exact Sub.nil | (apply Sub.cons; focus (first | ((with_reducible (repeat (first | exact Pick.hd | apply Pick.tl))); done) | ((repeat (first | exact Pick.hd | apply Pick.tl)); done) | fail)) | exact Sub.refl | apply Sub.skip)); done) | fail), ?_⟩
  refine ⟨Rd.boxA (τ := Bool) (E := boolE) [false, false, false, true], Rd.boxA (τ := Ml) (E := mlE) [⟨some ⟨b6, 0, none⟩, 2, [⟨0, some ⟨b2, 0, none⟩, 1, [1]⟩, ⟨1, some ⟨b4, 0, none⟩, 2, [1, 2]⟩]⟩, ⟨some ⟨b9, 0, none⟩, 1, [⟨0, some ⟨b7, 0, none⟩, 1, [3]⟩]⟩, ⟨some ⟨b12, 0, none⟩, 1, [⟨5, some ⟨b10, 0, none⟩, 2, [0, 2]⟩]⟩, ⟨none, 0, []⟩], fun i hi => ?_, fun i hi k hk => ?_⟩
  · rcases i with _ | _ | _ | _ | i
    · exact Rd.boxA (τ := Mv) (E := mvE) [⟨0, some ⟨b2, 0, none⟩, 1, [1]⟩, ⟨1, some ⟨b4, 0, none⟩, 2, [1, 2]⟩]
    · exact Rd.boxA (τ := Mv) (E := mvE) [⟨0, some ⟨b7, 0, none⟩, 1, [3]⟩]
    · exact Rd.boxA (τ := Mv) (E := mvE) [⟨5, some ⟨b10, 0, none⟩, 2, [0, 2]⟩]
    · exact Rd.empty
    · exact absurd hi (by simp [smpG])
  · rcases i with _ | _ | _ | _ | i
    · rcases k with _ | _ | k
      · exact Rd.boxA (τ := Int) (E := iE) [1]
      · exact Rd.boxA (τ := Int) (E := iE) [1, 2]
      · exact absurd hk (by simp [smpG])
    · rcases k with _ | k
      · exact Rd.boxA (τ := Int) (E := iE) [3]
      · exact absurd hk (by simp [smpG])
    · rcases k with _ | k
      · exact Rd.boxA (τ := Int) (E := iE) [0, 2]
      · exact absurd hk (by simp [smpG])
    · exact absurd hk (by simp [smpG])
    · exact absurd hi (by simp [smpG])
section
variable {a1 a2 a4 a6 a7 a9 a10 a12 a13 : Nat}
theorem smp_few : FewP (smpG a1 a2 a4 a6 a7 a9 a10 a12 a13) 60 := by
  refine ⟨by simp [smpG], by simp [smpG], fun i hi => ?_, fun i hi k hk => ?_⟩
  · rcases i with _ | _ | _ | _ | i
    all_goals first | (simp [smpG]; done) | exact absurd hi (by simp [smpG])
  · rcases i with _ | _ | _ | _ | i
    · rcases k with _ | _ | k
      all_goals first | (simp [smpG]; done) | exact absurd hk (by simp [smpG])
    · rcases k with _ | k
      all_goals first | (simp [smpG]; done) | exact absurd hk (by simp [smpG])
    · rcases k with _ | k
      all_goals first | (simp [smpG]; done) | exact absurd hk (by simp [smpG])
    · exact absurd hk (by simp [smpG])
    · exact absurd hi (by simp [smpG])
theorem asc_of (to : List Int) (n : Nat) (h : to.all (fun x => decide (0 ≤ x ∧ x < n)) = true) (h2 : to.length ≤ 2) (h3 : ∀ a b, to = [a, b] → a < b) : AscP n to := by
  intro j hj
  have := List.all_eq_true.1 h _ (List.getElem_mem hj)
  have := of_decide_eq_true this
  refine ⟨this.1, this.2, fun h0 => ?_⟩
  match to, j, hj, h2, h3 with
  | [a, b], 1, _, _, h3 => exact h3 a b rfl
  | [a], 1, hj, _, _ => exact absurd hj (by simp)
  | [a, b], j + 2, hj, _, _ => exact absurd hj (by simp)
theorem smp_right : RightP (smpG a1 a2 a4 a6 a7 a9 a10 a12 a13) := by
  refine ⟨rfl, by simp [smpG], fun i hi k hk => ?_⟩
  rcases i with _ | _ | _ | _ | i
  · rcases k with _ | _ | k
    · exact ⟨by simp [smpG], fun h => absurd h (Nat.lt_irrefl 0), by simp [smpG], asc_of [1] 4 rfl (by simp) (fun a b h => by cases h)⟩
    · exact ⟨by simp [smpG], fun _ => by simp [smpG], by simp [smpG], asc_of [1, 2] 4 rfl (by simp) (fun a b h => by cases h; omega)⟩
    · exact absurd hk (by simp [smpG])
  · rcases k with _ | k
    · exact ⟨by simp [smpG], fun h => absurd h (Nat.lt_irrefl 0), by simp [smpG], asc_of [3] 4 rfl (by simp) (fun a b h => by cases h)⟩
    · exact absurd hk (by simp [smpG])
  · rcases k with _ | k
    · exact ⟨by simp [smpG], fun h => absurd h (Nat.lt_irrefl 0), by simp [smpG], asc_of [0, 2] 4 rfl (by simp) (fun a b h => by cases h; omega)⟩
    · exact absurd hk (by simp [smpG])
  · exact absurd hk (by simp [smpG])
  · exact absurd hi (by simp [smpG])
theorem smp_w3 : win (smpG a1 a2 a4 a6 a7 a9 a10 a12 a13) 0 3 := rfl
theorem smp_w1 : win (smpG a1 a2 a4 a6 a7 a9 a10 a12 a13) 1 1 := by
  refine .inr ⟨by simp [smpG], 0, by simp [smpG], fun j hj => ?_⟩
  rcases j with _ | j
  · exact smp_w3
  · exact absurd hj (by simp [smpG])
theorem smp_w0 : win (smpG a1 a2 a4 a6 a7 a9 a10 a12 a13) 2 0 := by
  refine .inr ⟨by simp [smpG], 0, by simp [smpG], fun j hj => ?_⟩
  rcases j with _ | j
  · exact smp_w1
  · exact absurd hj (by simp [smpG])
theorem smp_n2 : ∀ r, ¬ win (smpG a1 a2 a4 a6 a7 a9 a10 a12 a13) r 2 := by
  intro r
  induction r with
  | zero => simp [win, smpG]
  | succ r ih =>
    rintro (h | ⟨hi, k, hk, h⟩)
    · exact ih h
    · rcases k with _ | k
      · exact ih (h 1 (by simp [smpG]))
      · exact absurd hk (by simp [smpG])
theorem smp_n10 : ¬ win (smpG a1 a2 a4 a6 a7 a9 a10 a12 a13) 0 1 := by simp [win, smpG]
theorem smp_n00 : ¬ win (smpG a1 a2 a4 a6 a7 a9 a10 a12 a13) 0 0 := by simp [win, smpG]
theorem smp_n01 : ¬ win (smpG a1 a2 a4 a6 a7 a9 a10 a12 a13) 1 0 := by
  rintro (h | ⟨hi, k, hk, h⟩)
  · exact smp_n00 h
  · rcases k with _ | _ | k
    · exact smp_n10 (h 0 (by simp [smpG]))
    · exact smp_n10 (h 0 (by simp [smpG]))
    · exact absurd hk (by simp [smpG])
theorem smp_ranks : RanksP (smpG a1 a2 a4 a6 a7 a9 a10 a12 a13) [2, 1, -1, 0] := by
  refine ⟨rfl, fun i hi => ?_, fun i hi => ?_⟩
  · rcases i with _ | _ | _ | _ | i
    all_goals first | (simp [smpG]; done) | exact absurd hi (by simp)
  · rcases i with _ | _ | _ | _ | i
    · refine .inr ⟨2, rfl, smp_w0, fun s hs => ?_⟩
      rcases s with _ | _ | s
      · exact smp_n00
      · exact smp_n01
      · omega
    · refine .inr ⟨1, rfl, smp_w1, fun s hs => ?_⟩
      rcases s with _ | s
      · exact smp_n10
      · omega
    · exact .inl ⟨rfl, smp_n2⟩
    · exact .inr ⟨0, rfl, smp_w3, fun s hs => absurd hs (Nat.not_lt_zero _)⟩
    · exact absurd hi (by simp)
theorem smp_rows : RowsTo (smpG a1 a2 a4 a6 a7 a9 a10 a12 a13) [2, 1, -1, 0] 4 [⟨0, 0, 2⟩, ⟨1, 0, 1⟩, ⟨3, -1, 0⟩] := by
  have h0 : RowP (smpG a1 a2 a4 a6 a7 a9 a10 a12 a13) [2, 1, -1, 0] 0 ⟨0, 0, 2⟩ := by
    refine RowP.move (g := smpG a1 a2 a4 a6 a7 a9 a10 a12 a13) (rk := [2, 1, -1, 0]) (i := 0) (by decide) (by simp [smpG]) 0 (by simp [smpG]) ⟨fun j hj => ?_, fun a ha h => absurd h (Nat.not_lt_zero _)⟩
    rcases j with _ | j
    · exact ⟨by show (0 : Int) ≤ 1; omega, by show (1 : Int) ≤ 2 - 1; omega⟩
    · exact absurd hj (by simp [smpG])
  have h1 : RowP (smpG a1 a2 a4 a6 a7 a9 a10 a12 a13) [2, 1, -1, 0] 1 ⟨1, 0, 1⟩ := by
    refine RowP.move (g := smpG a1 a2 a4 a6 a7 a9 a10 a12 a13) (rk := [2, 1, -1, 0]) (i := 1) (by decide) (by simp [smpG]) 0 (by simp [smpG]) ⟨fun j hj => ?_, fun a ha h => absurd h (Nat.not_lt_zero _)⟩
    rcases j with _ | j
    · exact ⟨by show (0 : Int) ≤ 0; omega, by show (0 : Int) ≤ 1 - 1; omega⟩
    · exact absurd hj (by simp [smpG])
  exact .add (.goal (by decide)) (.skip (by decide) (.add h1 (.add h0 .zero)))
theorem smp_ans : AnsP (smpG a1 a2 a4 a6 a7 a9 a10 a12 a13) [2, 1, -1, 0] 0 1 2 true := by
  refine .some 0 (by simp [smpG]) rfl rfl 1 (by simp [smpG]) rfl (fun q hq hlt => ?_) 2 ⟨1, by simp [smpG], rfl, fun q hq hlt => ?_, fun q hq => ?_⟩
  · obtain rfl : q = 0 := by omega
    simp [smpG]
  · obtain rfl : q = 0 := by omega
    simp [smpG, lessB, rkO]
  · rcases q with _ | _ | q
    · simp [smpG, lessB, rkO]
    · simp [smpG, lessB, rkO]
    · exact absurd hq (by simp [smpG])
end
def mk9_G13 : List (Nat × Nat) := [(0, 0), (1, 0), (2, 2), (3, 6), (4, 14), (5, 62), (6, 126)]
theorem small_ct (w0 : World) (F : List Res) : Ct Try.prog 9 [] w0 F (fun v Rs' => v = .bool true ∧ F = Rs') := by
  refine ct_enter 41 Try.func9 rfl rfl (by simp) fun w hS => ?_
  (repeat (first | (show WL _ _ _ (⟨_, _, _, _, _, none⟩ :: _) _ _ _; (first | refine w_mv hS ?_ | refine w_as hS ?_ | (show WL _ _ _ (⟨some _, .load _ _, _, _, _, none⟩ :: _) _ _ _; (first | refine w_ld hS ?_ | fail)) | (show WL _ _ _ (⟨some _, .binOp _ _ _ _ _, _, _, _, none⟩ :: _) _ _ _; (first | refine w_beql hS ?_ | fail)) | (show WL _ _ _ (⟨_, .call _, _, _, _, none⟩ :: _) _ _ _; (first | (show WL _ _ _ (⟨some _, .call ⟨.value (.func 27), _, _⟩, _, _, _, _⟩ :: _) _ _ _; refine w_clS hS rfl (sample_ct _ _) ?_; (try clear hS); (try clear w); rintro _ Fs w ⟨a1, a2, a4, a6, a7, a9, a10, a12, a13, rfl, hsub, hG⟩ hS) | fail)) | (show WL _ _ _ (⟨some _, .pick _ _ _, _, _, _, none⟩ :: _) _ _ _; refine w_pk hS ?_) | (show WL _ _ _ (⟨some _, .extract _ _, _, _, _, none⟩ :: _) _ _ _; refine w_ex hS ?_) | (show WL _ _ _ (⟨some _, .alloc _, _, _, _, none⟩ :: _) _ _ _; first | (show WL _ _ _ (⟨some 1, .alloc _, _, _, _, none⟩ :: _) _ _ _; (refine w_allocA hS ?_; (try clear hS); (try clear w); intro b1 w hS)) | fail) | (show WL _ _ _ (⟨none, .store _ _ _, _, _, _, none⟩ :: _) _ _ _; first | (refine w_st1 hS ?_; (try clear hS); (try clear w); intro w hS) | (refine w_stA hS ?_; (try clear hS); (try clear w); intro w hS)) | (show WL _ _ _ (⟨some _, .buildSlice _ _ _, _, _, _, none⟩ :: _) _ _ _; first | (show WL _ _ _ (⟨some 21, .buildSlice _ _ _, _, _, _, none⟩ :: _) _ _ _; first | (refine w_bs0 hS ?_; (try clear hS); (try clear w); intro b21 w hS) | (refine w_bs1 hS ?_; (try clear hS); (try clear w); intro b21 w hS)) | (show WL _ _ _ (⟨some 26, .buildSlice _ _ _, _, _, _, none⟩ :: _) _ _ _; first | (refine w_bs0 hS ?_; (try clear hS); (try clear w); intro b26 w hS) | (refine w_bs1 hS ?_; (try clear hS); (try clear w); intro b26 w hS)) | fail) | fail)) | (show WL _ _ _ (⟨_, _, _, _, _, some _⟩ :: _) _ _ _; (first | refine gskip ?_ | refine grun ?_ | refine gskip0 ?_ | refine grun0 ?_ | refine gtr1 ?_ | refine gts1 ?_ | refine gfr1 ?_ | refine gfs1 ?_ | refine gtr2 ?_ | refine gts2 ?_ | refine gfr2 ?_ | refine gfs2 ?_ | fail)) | refine wnil ?_ | (show WC _ _ _ _ _ _; (first | refine f_seq ?_ | (refine f_sig fun σ hσ => ?_; first | (refine r_g mk9_G13 hσ ?_; clear hσ)) | refine f_skip ?_ | refine f_block ?_ | refine f_exit ?_ | refine f_ret ?_ | refine c_t1 ?_ | refine c_f1 ?_ | refine c_t2 ?_ | refine c_f2 ?_ | fail)) | (show WQ _ _ _ _ _ _; (first | refine x_n ?_ | refine fin_norm ?_ | refine x_b ?_ | refine x_te ?_ | refine x_be ?_ | refine x_tr ?_ | refine x_br ?_ | refine x_le ?_ | refine x_lr ?_ | fail)) | fail))
  generalize hg : smpG a1 a2 a4 a6 a7 a9 a10 a12 a13 = g at *
  have hF : FewP g 1000 := by
    have := smp_few (a1 := a1) (a2 := a2) (a4 := a4) (a6 := a6) (a7 := a7) (a9 := a9) (a10 := a10) (a12 := a12) (a13 := a13)
    rw [hg] at this
    exact ⟨by have := this.ms; omega, by have := this.goal; omega, this.ml, this.to⟩
  have hr : RightP g := by rw [← hg]; exact smp_right
  have hk : RanksP g [2, 1, -1, 0] := by rw [← hg]; exact smp_ranks
  have hw : RowsTo g [2, 1, -1, 0] g.goal.length [⟨0, 0, 2⟩, ⟨1, 0, 1⟩, ⟨3, -1, 0⟩] := by rw [← hg]; exact smp_rows
  have ha : AnsP g [2, 1, -1, 0] 0 1 2 true := by rw [← hg]; exact smp_ans
  have c17 : ∀ F, GRd (Sat w0 F) g → Ct Try.prog 17 [gV g] w0 F (fun v Rs' => ∃ R c, v = .slice R 4 c ∧ Rs' = rowR iE 3 R c [2, 1, -1, 0] :: F) := fun F hG =>
    ct_imp (ranks_ct g w0 F hG hF hr) fun v Rs' ⟨R, c, rk, h1, h2, h3⟩ => by
      obtain rfl := h2.unique hk
      exact ⟨R, c, h1, h3⟩
  have c19 : ∀ F, GRd (Sat w0 F) g → Ct Try.prog 19 [gV g] w0 F (fun v Rs' => ∃ R c, v = .slice R 3 c ∧ Rs' = rowR rwE 43 R c [⟨0, 0, 2⟩, ⟨1, 0, 1⟩, ⟨3, -1, 0⟩] :: F) := fun F hG =>
    ct_imp (solve_ct g w0 F hG hF hr) fun v Rs' ⟨R, c, rk, rows, h1, h2, h3, h4⟩ => by
      obtain rfl := h2.unique hk
      obtain rfl := h3.unique hw
      exact ⟨R, c, h1, h4⟩
  have c14 : ∀ F R c, GRd (Sat w0 F) g → Rd (Sat w0 F) iE R [2, 1, -1, 0] → Ct Try.prog 14 [gV g, .slice R 4 c, .int .i64 0, .int .i64 1] w0 F (fun v Rs' => v = .tuple #[.int .i64 2, .bool true] ∧ F = Rs') := fun F R c hG hR =>
    ct_imp (answer_ct g R c [2, 1, -1, 0] 0 1 w0 F hG hR hF hr (by simp)) fun v Rs' ⟨⟨r, ok, h1, h2⟩, h3⟩ => by
      obtain ⟨rfl, rfl⟩ := h2.unique ha
      exact ⟨h1, h3⟩
  (repeat (first | (show WL _ _ _ (⟨_, _, _, _, _, none⟩ :: _) _ _ _; (first | refine w_mv hS ?_ | refine w_as hS ?_ | (show WL _ _ _ (⟨some _, .load _ _, _, _, _, none⟩ :: _) _ _ _; (first | refine w_ld hS ?_ | fail)) | (show WL _ _ _ (⟨some _, .binOp _ _ _ _ _, _, _, _, none⟩ :: _) _ _ _; (first | refine w_beql hS ?_ | fail)) | (show WL _ _ _ (⟨_, .call _, _, _, _, none⟩ :: _) _ _ _; (first | (show WL _ _ _ (⟨some _, .call ⟨.value (.func 17), _, _⟩, _, _, _, _⟩ :: _) _ _ _; refine w_clS hS rfl (c17 _ (hG.weak (.skip .refl))) ?_; (try clear hS); (try clear w); rintro _ _ w ⟨K, kc, rfl, rfl⟩ hS) | (show WL _ _ _ (⟨some _, .call ⟨.value (.func 19), _, _⟩, _, _, _, _⟩ :: _) _ _ _; refine w_clS hS rfl (c19 _ (hG.weak (.skip (.skip .refl)))) ?_; (try clear hS); (try clear w); rintro _ _ w ⟨R, rc, rfl, rfl⟩ hS) | (show WL _ _ _ (⟨some _, .call ⟨.value (.func 14), _, _⟩, _, _, _, _⟩ :: _) _ _ _; refine w_clS hS rfl (c14 _ K kc (hG.weak (.skip (.skip (.skip .refl)))) Rd.ownA) ?_; (try clear hS); (try clear w); rintro _ _ w ⟨rfl, rfl⟩ hS) | (show WL _ _ _ (⟨some _, .call ⟨.value (.func 11), _, _⟩, _, _, _, _⟩ :: _) _ _ _; refine w_clS hS rfl (ct_yes (right_ct g _ _ (hG.weak (.skip (.skip (.skip (.skip .refl))))) hF) hr) ?_; (try clear hS); (try clear w); rintro _ _ w ⟨rfl, rfl⟩ hS) | (show WL _ _ _ (⟨some _, .call ⟨.value (.func 16), _, _⟩, _, _, _, _⟩ :: _) _ _ _; refine w_clS hS rfl (ct_yes (ints_ct K _ kc 4 [2, 1, -1, 0] [2, 1, -1, 0] _ _ Rd.ownA (Rd.boxA (τ := Int) (E := iE) [2, 1, -1, 0]) (by simp) (by simp)) rfl) ?_; (try clear hS); (try clear w); rintro _ _ w ⟨rfl, rfl⟩ hS) | (show WL _ _ _ (⟨some _, .call ⟨.value (.func 18), _, _⟩, _, _, _, _⟩ :: _) _ _ _; refine w_clS hS rfl (ct_yes (rows_ct R _ rc 3 [⟨0, 0, 2⟩, ⟨1, 0, 1⟩, ⟨3, -1, 0⟩] [⟨0, 0, 2⟩, ⟨1, 0, 1⟩, ⟨3, -1, 0⟩] _ _ Rd.ownA (Rd.boxA (τ := Rw) (E := rwE) [⟨0, 0, 2⟩, ⟨1, 0, 1⟩, ⟨3, -1, 0⟩]) (by simp) (by simp)) rfl) ?_; (try clear hS); (try clear w); rintro _ _ w ⟨rfl, rfl⟩ hS) | fail)) | (show WL _ _ _ (⟨some _, .pick _ _ _, _, _, _, none⟩ :: _) _ _ _; refine w_pk hS ?_) | (show WL _ _ _ (⟨some _, .extract _ _, _, _, _, none⟩ :: _) _ _ _; refine w_ex hS ?_) | refine wyU hS (by first | (show Yld _ _ _ _ ⟨_, .build _ _, _, _, _, _⟩ _; first | exact y_build (bld43_0_2 _ _) rfl | exact y_build (bld43_0_1 _ _) rfl) | fail) ?_ | (show WL _ _ _ (⟨some 21, .buildSlice _ _ _, _, _, _, _⟩ :: _) _ _ _; refine w_bsN (vs := [.int .i64 0, .int .i64 0, .int .i64 2, .int .i64 1, .int .i64 0, .int .i64 1, .int .i64 3, .int .i64 (-1), .int .i64 0]) [_, _, _] [.agg #[.int .i64 0, .int .i64 0, .int .i64 2], .agg #[.int .i64 1, .int .i64 0, .int .i64 1], .agg #[.int .i64 3, .int .i64 (-1), .int .i64 0]] hS ?_; (try clear hS); (try clear w); intro b21 w hS) | (show WL _ _ _ (⟨some 26, .buildSlice _ _ _, _, _, _, _⟩ :: _) _ _ _; refine w_bsN (vs := [.int .i64 2, .int .i64 1, .int .i64 (-1), .int .i64 0]) [_, _, _, _] [.int .i64 2, .int .i64 1, .int .i64 (-1), .int .i64 0] hS ?_; (try clear hS); (try clear w); intro b26 w hS) | (show WL _ _ _ (⟨some _, .alloc _, _, _, _, none⟩ :: _) _ _ _; first | (show WL _ _ _ (⟨some 1, .alloc _, _, _, _, none⟩ :: _) _ _ _; (refine w_allocA hS ?_; (try clear hS); (try clear w); intro b1 w hS)) | fail) | (show WL _ _ _ (⟨none, .store _ _ _, _, _, _, none⟩ :: _) _ _ _; first | (refine w_st1 hS ?_; (try clear hS); (try clear w); intro w hS) | (refine w_stA hS ?_; (try clear hS); (try clear w); intro w hS)) | (show WL _ _ _ (⟨some _, .buildSlice _ _ _, _, _, _, none⟩ :: _) _ _ _; first | (show WL _ _ _ (⟨some 21, .buildSlice _ _ _, _, _, _, none⟩ :: _) _ _ _; first | (refine w_bs0 hS ?_; (try clear hS); (try clear w); intro b21 w hS) | (refine w_bs1 hS ?_; (try clear hS); (try clear w); intro b21 w hS)) | (show WL _ _ _ (⟨some 26, .buildSlice _ _ _, _, _, _, none⟩ :: _) _ _ _; first | (refine w_bs0 hS ?_; (try clear hS); (try clear w); intro b26 w hS) | (refine w_bs1 hS ?_; (try clear hS); (try clear w); intro b26 w hS)) | fail) | fail)) | (show WL _ _ _ (⟨_, _, _, _, _, some _⟩ :: _) _ _ _; (first | refine gskip ?_ | refine grun ?_ | refine gskip0 ?_ | refine grun0 ?_ | refine gtr1 ?_ | refine gts1 ?_ | refine gfr1 ?_ | refine gfs1 ?_ | refine gtr2 ?_ | refine gts2 ?_ | refine gfr2 ?_ | refine gfs2 ?_ | fail)) | refine wnil ?_ | (show WC _ _ _ _ _ _; (first | refine f_seq ?_ | (refine f_sig fun σ hσ => ?_; first | (refine r_g mk9_G13 hσ ?_; clear hσ)) | refine f_skip ?_ | refine f_block ?_ | refine f_exit ?_ | refine f_ret ?_ | refine c_t1 ?_ | refine c_f1 ?_ | refine c_t2 ?_ | refine c_f2 ?_ | fail)) | (show WQ _ _ _ _ _ _; (first | refine x_n ?_ | refine fin_norm ?_ | refine x_b ?_ | refine x_te ?_ | refine x_be ?_ | refine x_tr ?_ | refine x_br ?_ | refine x_le ?_ | refine x_lr ?_ | fail)) | fail))
  exact fin1 rfl (rdv_tmp (v := .bool _) rfl) (Rs := F) (hS.sub (.skip (.skip (.skip (.skip (.skip hsub)))))) ⟨rfl, rfl⟩
end Go.Proofs.Ythakebelpnfinaa

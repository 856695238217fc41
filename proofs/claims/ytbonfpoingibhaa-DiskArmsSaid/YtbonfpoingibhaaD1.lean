import Derived.Test.YtbonfpoingibhaaFacts
import Derived.Test.YtbonfpoingibhaaD0
set_option linter.unusedVariables false
set_option linter.unusedSimpArgs false
set_option maxRecDepth 20000
set_option maxHeartbeats 1000000
namespace Go.Proofs.Ytbonfpoingibhaa
open Go.RowKit Go.Sx Go.Dk
attribute [local irreducible] boxR rowR mapR bytR

abbrev iE : Enc Int := intE .i64
def flV (x : Fl) : Value := .agg #[.string (bs x.now), .string (bs x.last)]
def secV (p : Int × Int) : Value := .agg #[.int .i64 p.1, .int .i64 p.2]
def secE : Enc (Int × Int) := { enc := fun x => [.int .i64 x.1, .int .i64 x.2], sz := 2, len := fun _ => rfl, one := fun x v hv => by simp at hv; rcases hv with rfl | rfl <;> rfl, pos := by decide }
theorem eqSec (x y : Int × Int) (w : World) : (Op.equal 70 (secV x) (secV y)).run Try.prog w = .ok (decide (x = y)) w := by
  have u3 := Try.underlying3
  have e : decide (x = y) = (x.1 == y.1 && (x.2 == y.2 && true)) := by
    obtain ⟨a, b⟩ := x; obtain ⟨c, d⟩ := y
    rw [Bool.eq_iff_iff]; simp
  rw [e]
  refine eqS_of Try.underlying70 (by kernel_rfl) (fun w => ?_) w
  refine eqF_cons (by decide) (f := ⟨_, _, _, _, _, _, _⟩) inferInstance rfl rfl (fun w => run_equalIn_int w _ _ _ _ _ _ u3) (fun w => ?_) w
  refine eqF_cons (by decide) (f := ⟨_, _, _, _, _, _, _⟩) inferInstance rfl rfl (fun w => run_equalIn_int w _ _ _ _ _ _ u3) (fun w => ?_) w
  exact eqF_nil w
instance mkI : MK Try.prog 3 (intK .i64) := mk_int Try.underlying3
instance mkS : MK Try.prog 70 secV := mk_struct Try.underlying70 (fun w x y => eqSec x y w) (fun w em x => by
  have hk : ∀ (n : Nat) (v : Int) (w : World), (Instr.checkKey em (n + 1) 3 (.int .i64 v)).run Try.prog w = .ok () w := fun n v w => by
    unfold Instr.checkKey; simp [run_underlying Try.underlying3]
  show (Instr.checkKey em (9999 + 1) 70 (secV x)).run Try.prog w = _
  unfold Instr.checkKey
  have h3 : TL Try.prog 3 false 1 := inferInstance
  simp [run_underlying Try.underlying70, secV, part, h3.isAgg, hk 9998]) (fun x => by simp [Instr.sameBits, secV])
instance zeF : ZE Try.prog 63 (flV fl0) := ⟨by
  have h : (Try.prog.info? 63).map (·.zero) = some (some (.agg #[.string ⟨#[]⟩, .string ⟨#[]⟩])) := by kernel_rfl
  have e : flV fl0 = .agg #[.string ⟨#[]⟩, .string ⟨#[]⟩] := by simp only [flV, fl0, bs_nil]; rfl
  exact h.trans (by rw [e])⟩
instance zeB : ZE Try.prog 4 (.bool false) := ⟨by kernel_rfl⟩
instance elI : EL Try.prog 31 3 iE 8 := el_mk (z := .int .i64 0) Try.underlying31 (by kernel_rfl) rfl rfl
instance elS : EL Try.prog 54 70 secE 16 := el_mk (z := .agg #[.int .i64 0, .int .i64 0]) Try.underlying54 (by kernel_rfl) rfl rfl
instance elB : EL Try.prog 85 5 bE 1 := el_mk (z := .int .u8 0) Try.underlying85 (by kernel_rfl) rfl rfl
/-- Where the disk's parts lie. -/
structure DG where
  M : Nat
  m : List (Int × Fl)
  Q : Option Addr
  qc : Nat
  Z : Nat
  z : List ((Int × Int) × Bool)
structure DGOk (g : DG) (st : DS) : Prop where
  ok : DOk st
  files : ∀ k, (mget g.m k).getD fl0 = st.files k
  set : ∀ p, mget g.z p = if p ∈ st.queue then some true else none
abbrev dC (K : Option Addr) (kc : Nat) (g : DG) (st : DS) : List Value := [.map (some g.M), .slice g.Q st.queue.length g.qc, .map (some g.Z), .int .i64 st.lost, .bool st.down, .int .i64 st.armed, .slice K st.keep.length kc]
abbrev dL (b : Nat) (K : Option Addr) (kc : Nat) (g : DG) (st : DS) : List Res := [boxR b (dC K kc g st) 56, mapR (intK .i64) flV g.M g.m, rowR secE 70 g.Q g.qc st.queue, mapR secV (fun x : Bool => .bool x) g.Z g.z]
/-- A disk of the program. -/
def dskR (b : Nat) (K : Option Addr) (kc : Nat) (st : DS) : Res := exR fun g : {g : DG // DGOk g st} => dL b K kc g.1 st
section
variable {w0 w : World} {b : Nat} {K : Option Addr} {kc : Nat} {st : DS} {X : List Res}
theorem dsk_out (h : Sat w0 (dskR b K kc st :: X) w) : ∃ g, DGOk g st ∧ Sat w0 (boxR b (dC K kc g st) 56 :: mapR (intK .i64) flV g.M g.m :: rowR secE 70 g.Q g.qc st.queue :: mapR secV (fun x : Bool => .bool x) g.Z g.z :: X) w := by
  obtain ⟨⟨g, hg⟩, hS⟩ := h.ex_out
  exact ⟨g, hg, hS⟩
theorem dsk_in {g : DG} (hg : DGOk g st) (h : Sat w0 (boxR b (dC K kc g st) 56 :: mapR (intK .i64) flV g.M g.m :: rowR secE 70 g.Q g.qc st.queue :: mapR secV (fun x : Bool => .bool x) g.Z g.z :: X) w) : Sat w0 (dskR b K kc st :: X) w :=
  Sat.ex_in (f := fun g : {g : DG // DGOk g st} => dL b K kc g.1 st) ⟨g, hg⟩ h
end
attribute [local irreducible] dskR

def mk47_D1 : List (Nat × Nat) := [(0, 7), (1, 7), (2, 1), (3, 7), (4, 135), (5, 134), (6, 128)]
theorem put_ct (s t : Bs) (a : Nat) (w0 : World) (F : List Res) (hs : s.length ≤ 16777216) (ht : a + t.length ≤ 16777216) : Ct Try.prog 47 [.string (bs s), .int .i64 a, .string (bs t)] w0 F (fun v Rs' => v = .string (bs (put s a t)) ∧ F = Rs') := by
  refine ct_enter 29 Try.func47 rfl rfl (by simp) fun w hS => ?_
  by_cases h0 : t = []
  · (repeat (first | (show WL _ _ _ (⟨_, _, _, _, _, none⟩ :: _) _ _ _; (first | refine w_mv hS ?_ | refine w_as hS ?_ | (show WL _ _ _ (⟨some _, .binOp _ _ _ _ _, _, _, _, none⟩ :: _) _ _ _; (first | refine wyU hS (by first | (show Yld _ _ _ _ ⟨_, .binOp .eql _ _ _ _, _, _, _, _⟩ _; exact y_eqs0 rfl rfl) | fail) ?_ | refine w_beql hS ?_ | refine w_badd hS ?_ | fail)) | (show WL _ _ _ (⟨_, .call _, _, _, _, none⟩ :: _) _ _ _; (first | refine w_bi hS ?_ | fail)) | (show WL _ _ _ (⟨some _, .slice _ _ _ _ _, _, _, _, none⟩ :: _) _ _ _; refine w_sl hS ?_) | fail)) | refine wnil ?_ | (show WC _ _ _ _ _ _; (first | refine f_seq ?_ | (refine f_sig fun σ hσ => ?_; first | (refine r_g mk47_D1 hσ ?_; clear hσ)) | refine f_skip ?_ | refine f_block ?_ | refine f_exit ?_ | refine f_ret ?_ | refine c_t1 ?_ | refine c_f1 ?_ | refine c_t2 ?_ | refine c_f2 ?_ | fail)) | (show WQ _ _ _ _ _ _; (first | refine x_n ?_ | refine fin_norm ?_ | refine x_b ?_ | refine x_te ?_ | refine x_be ?_ | refine x_tr ?_ | refine x_br ?_ | refine x_le ?_ | refine x_lr ?_ | fail)) | fail))
    exact fin1 rfl (rdv_tmp (v := .string _) rfl) hS ⟨by rw [put, if_pos h0], rfl⟩
  · have hl : 0 < t.length := List.length_pos_iff.2 h0
    have hn : max (s.length : Int) ((a : Int) + t.length) = ((max s.length (a + t.length) : Nat) : Int) := by omega
    have hz : ∀ i z, Try.prog.info? 5 = some i → i.zero = some z → z.cells.toList = bE.enc 0 := by
      have h : (Try.prog.info? 5).map (·.zero) = some (some (.int .u8 0)) := by kernel_rfl
      intro i z hi hz
      rw [hi] at h
      simp only [Option.map_some, Option.some.injEq] at h
      rw [hz] at h
      cases h
      rfl
    (repeat (first | (show WL _ _ _ (⟨_, _, _, _, _, none⟩ :: _) _ _ _; (first | (show WL _ _ _ (⟨some 24, .slice _ _ _ _ _, _, _, _, _⟩ :: _) _ _ _; refine wyU hS (y_slLs (kk := a) IsSl.out inferInstance rfl rfl (by omega) (by omega) (by omega) (by simp)) ?_) | refine w_mv hS ?_ | refine w_as hS ?_ | (show WL _ _ _ (⟨some _, .binOp _ _ _ _ _, _, _, _, none⟩ :: _) _ _ _; (first | refine wyU hS (by first | (show Yld _ _ _ _ ⟨_, .binOp .eql _ _ _ _, _, _, _, _⟩ _; exact y_eqs0 rfl rfl) | fail) ?_ | refine w_beql hS ?_ | refine w_badd hS ?_ | fail)) | (show WL _ _ _ (⟨_, .call _, _, _, _, none⟩ :: _) _ _ _; (first | (show WL _ _ _ (⟨some _, .call ⟨.builtin .len, _, _⟩, _, _, _, _⟩ :: _) _ _ _; refine wyU hS (y_lensB IsStr.out rfl) ?_) | (show WL _ _ _ (⟨some _, .call ⟨.builtin .max, _, _⟩, _, _, _, _⟩ :: _) _ _ _; refine wyU hS (y_maxI rfl rfl) ?_; rw [hn]) | (show WL _ _ _ (⟨some 21, .call ⟨.builtin .copy, _, _⟩, _, _, _, _⟩ :: _) _ _ _; refine w_cpS (ad := ⟨bB, 0, none⟩) (kk := 0) (ts := s) hS IsSl.out inferInstance rfl rfl (by first | ((with_reducible (repeat (first | exact Swap.hd | apply Swap.tl))); done) | ((repeat (first | exact Swap.hd | apply Swap.tl)); done) | fail) (by omega) (by simp; omega) ?_; (try clear hS); (try clear w); intro w hS) | (show WL _ _ _ (⟨some 26, .call ⟨.builtin .copy, _, _⟩, _, _, _, _⟩ :: _) _ _ _; refine w_cpS (ad := ⟨bB, 0, none⟩) (kk := a) (ts := t) hS IsSl.out inferInstance rfl rfl (by first | ((with_reducible (repeat (first | exact Swap.hd | apply Swap.tl))); done) | ((repeat (first | exact Swap.hd | apply Swap.tl)); done) | fail) (by omega) (by simp; omega) ?_; (try clear hS); (try clear w); intro w hS) | refine w_bi hS ?_ | fail)) | (show WL _ _ _ (⟨some _, .slice _ _ _ _ _, _, _, _, none⟩ :: _) _ _ _; refine w_sl hS ?_) | refine wyU hS (by first | (show Yld _ _ _ _ ⟨_, .convert _ _ _, _, _, _, _⟩ _; exact y_cvBS IsSl.out IsInt.out IsStr.out rfl Rd.ownA (by simp; omega)) | fail) ?_ | (show WL _ _ _ (⟨some _, .makeSlice _ _ _, _, _, _, _⟩ :: _) _ _ _; refine w_mk (E := bE) (m := max s.length (a + t.length)) 0 hS rfl rfl ?_ hz (by omega) (by omega); (try clear hS); (try clear w); intro bB w hS) | fail)) | refine wnil ?_ | (show WC _ _ _ _ _ _; (first | refine f_seq ?_ | (refine f_sig fun σ hσ => ?_; first | (refine r_g mk47_D1 hσ ?_; clear hσ)) | refine f_skip ?_ | refine f_block ?_ | refine f_exit ?_ | refine f_ret ?_ | refine c_t1 ?_ | refine c_f1 ?_ | refine c_t2 ?_ | refine c_f2 ?_ | fail)) | (show WQ _ _ _ _ _ _; (first | refine x_n ?_ | refine fin_norm ?_ | refine x_b ?_ | refine x_te ?_ | refine x_be ?_ | refine x_tr ?_ | refine x_br ?_ | refine x_le ?_ | refine x_lr ?_ | fail)) | fail))
    refine fin1 rfl (rdv_tmp (v := .string _) rfl) (Rs := F) (hS.subA) ⟨?_, rfl⟩
    have e1 : (List.replicate (max s.length (a + t.length)) (0 : UInt8)).take 0 ++ s ++ (List.replicate (max s.length (a + t.length)) 0).drop (0 + s.length) = s ++ List.replicate (a + t.length - s.length) 0 := by
      rw [List.take_zero, List.nil_append, List.drop_replicate, show max s.length (a + t.length) - (0 + s.length) = a + t.length - s.length by omega]
    rw [e1, put, if_neg h0]
end Go.Proofs.Ytbonfpoingibhaa

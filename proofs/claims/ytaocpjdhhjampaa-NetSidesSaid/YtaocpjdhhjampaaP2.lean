/- Plain facts about the network's model for NetOrders and NetSides. -/
import Derived.Test.YtaocpjdhhjampaaSxL
import Derived.Test.YtaocpjdhhjampaaP1
set_option linter.unusedVariables false
set_option linter.unusedSimpArgs false
namespace Go.Proofs.Ytaocpjdhhjampaa
open Go.RowKit Go.Sx
theorem side_eq (sp a : Int) (h0 : 0 ≤ a) (h1 : a < 16) : sideZ sp a = (sp / 2 ^ a.toNat) % 2 := bit_at sp a h0 (by omega)
theorem side0 (a : Int) (h0 : 0 ≤ a) (h1 : a < 16) : sideZ 0 a = 0 := by rw [side_eq 0 a h0 h1, Int.zero_ediv]; rfl
theorem side16 (m a : Int) (h0 : 0 ≤ a) (h1 : a < 16) : sideZ (bits .and .i64 m 65535) a = sideZ m a := by
  rw [side_eq _ a h0 h1, side_eq m a h0 h1, and16]
  have : a = 0 ∨ a = 1 ∨ a = 2 ∨ a = 3 ∨ a = 4 ∨ a = 5 ∨ a = 6 ∨ a = 7 ∨ a = 8 ∨ a = 9 ∨ a = 10 ∨ a = 11 ∨ a = 12 ∨ a = 13 ∨ a = 14 ∨ a = 15 := by omega
  rcases this with h | h | h | h | h | h | h | h | h | h | h | h | h | h | h | h <;> subst h <;> simp <;> omega
theorem end_in {a : Int} (h0 : 0 ≤ a) (h1 : a < 16) : endB a = true := decide_eq_true ⟨h0, h1⟩
theorem hear0 {a b : Int} (ha : 0 ≤ a ∧ a < 16) (hb : 0 ≤ b ∧ b < 16) : hearB 0 a b = true := by
  simp [hearB, end_in ha.1 ha.2, end_in hb.1 hb.2, side0 a ha.1 ha.2, side0 b hb.1 hb.2]
theorem hear16 {a b : Int} (m : Int) (ha : 0 ≤ a ∧ a < 16) (hb : 0 ≤ b ∧ b < 16) : hearB (bits .and .i64 m 65535) a b = decide (sideZ m a = sideZ m b) := by
  simp [hearB, end_in ha.1 ha.2, end_in hb.1 hb.2, side16 m a ha.1 ha.2, side16 m b hb.1 hb.2]
theorem send_in {sp a b : Int} {l : List Pk} {bd : ByteArray} (ha : 0 ≤ a ∧ a < 16) (hb : 0 ≤ b ∧ b < 16) (hne : a ≠ b) (hh : hearB sp a b = true) (hl : l.length < 500) : sendN ⟨l, sp⟩ a b bd = (0, ⟨l ++ [⟨a, b, bd⟩], sp⟩) := by
  simp [sendN, end_in ha.1 ha.2, end_in hb.1 hb.2, hne, hh, hl]
theorem send_full {sp a b : Int} {l : List Pk} {bd : ByteArray} (ha : 0 ≤ a ∧ a < 16) (hb : 0 ≤ b ∧ b < 16) (hne : a ≠ b) (hh : hearB sp a b = true) (hl : ¬ l.length < 500) : sendN ⟨l, sp⟩ a b bd = (6, ⟨l, sp⟩) := by
  simp [sendN, end_in ha.1 ha.2, end_in hb.1 hb.2, hne, hh, hl]
theorem send_same {s : NS} {a : Int} {bd : ByteArray} : sendN s a a bd = (1, s) := by simp [sendN]
theorem send_deaf {s : NS} {a b : Int} {bd : ByteArray} (ha : 0 ≤ a ∧ a < 16) (hb : 0 ≤ b ∧ b < 16) (hne : a ≠ b) (hh : hearB s.sp a b = false) : sendN s a b bd = (10, s) := by
  simp [sendN, end_in ha.1 ha.2, end_in hb.1 hb.2, hne, hh]
theorem deliver_in {l : List Pk} {sp : Int} {k : Nat} (hk : k < l.length) (hh : hearB sp l[k].fr l[k].to = true) : deliverN ⟨l, sp⟩ k = ((l[k], 0), ⟨l.eraseIdx k, sp⟩) := by
  simp [deliverN, atN_in (s := ⟨l, sp⟩) hk, hh, rmN]
theorem deliver_out {l : List Pk} {sp k : Int} (hk : ¬ (0 ≤ k ∧ k < l.length)) : deliverN ⟨l, sp⟩ k = ((zeroPk, 4), ⟨l, sp⟩) := by
  simp [deliverN, atN_out (s := ⟨l, sp⟩) hk]
theorem deliver_lost {x : Pk} {sp : Int} (hh : hearB sp x.fr x.to = false) : deliverN ⟨[x], sp⟩ 0 = ((zeroPk, 10), ⟨[], sp⟩) := by
  simp [deliverN, atN, hh, rmN]
theorem deliver_one {x : Pk} {sp : Int} (hh : hearB sp x.fr x.to = true) : deliverN ⟨[x], sp⟩ 0 = ((x, 0), ⟨[], sp⟩) := by
  simp [deliverN, atN, hh, rmN]
/-- The ends of NetOrders. -/
theorem ends_ok (a b : Int) : (0 ≤ bits .and .i64 a 15 ∧ bits .and .i64 a 15 < 16) ∧ (0 ≤ bits .and .i64 (bits .and .i64 a 15 + 1 + bits .and .i64 b 7) 15 ∧ bits .and .i64 (bits .and .i64 a 15 + 1 + bits .and .i64 b 7) 15 < 16) ∧
    bits .and .i64 a 15 ≠ bits .and .i64 (bits .and .i64 a 15 + 1 + bits .and .i64 b 7) 15 ∧ (0 ≤ bits .and .i64 b 7 ∧ bits .and .i64 b 7 < 8) := by
  simp only [and15, and7]; omega
theorem ring_ok (i : Int) (h : 0 ≤ i) : (0 ≤ bits .and .i64 i 15 ∧ bits .and .i64 i 15 < 16) ∧ (0 ≤ bits .and .i64 (i + 1) 15 ∧ bits .and .i64 (i + 1) 15 < 16) ∧ bits .and .i64 i 15 ≠ bits .and .i64 (i + 1) 15 := by
  simp only [and15]; omega
theorem double_full {l : List Pk} {sp : Int} (hl : l.length = 500) : doubleN ⟨l, sp⟩ 3 = (6, ⟨l, sp⟩) := by
  have : atN ⟨l, sp⟩ ((3 : Nat) : Int) = some l[3] := atN_in (s := ⟨l, sp⟩) (k := 3) (by show 3 < l.length; omega)
  have h3 : atN ⟨l, sp⟩ 3 = some l[3] := this
  simp [doubleN, h3, hl]
def AllHear (l : List Pk) : Prop := ∀ x ∈ l, hearB 0 x.fr x.to = true
end Go.Proofs.Ytaocpjdhhjampaa

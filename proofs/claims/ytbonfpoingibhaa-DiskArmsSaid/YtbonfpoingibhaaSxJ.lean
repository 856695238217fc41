/- Sx, part J: plain facts on bits. -/
import Derived.Test.YtbonfpoingibhaaSxI
import Derived.Laws.BitsLemmas
set_option linter.unusedVariables false
set_option linter.unusedSimpArgs false
namespace Go.Sx
open Go.RowKit
theorem and_key (n m : Int) (k : Nat) (hm : (BitVec.ofInt 64 m).toNat = 2 ^ k - 1) : bits .and .i64 n m = IntKind.i64.wrap (((n % ((2 ^ 64 : Nat) : Int)).toNat % 2 ^ k : Nat) : Int) := by
  have key : (BitVec.ofInt 64 n &&& BitVec.ofInt 64 m).toNat = (n % ((2 ^ 64 : Nat) : Int)).toNat % 2 ^ k := by
    rw [BitVec.toNat_and, BitVec.toNat_ofInt, hm, Nat.and_two_pow_sub_one_eq_mod]
  show IntKind.i64.wrap ((BitVec.ofInt 64 n &&& BitVec.ofInt 64 m).toNat : Nat) = _
  rw [key]
theorem and1 (n : Int) : bits .and .i64 n 1 = n % 2 := by rw [and_key n 1 1 (by decide), IntKind.wrap_i64]; omega
theorem and3 (n : Int) : bits .and .i64 n 3 = n % 4 := by rw [and_key n 3 2 (by decide), IntKind.wrap_i64]; omega
theorem and7 (n : Int) : bits .and .i64 n 7 = n % 8 := by rw [and_key n 7 3 (by decide), IntKind.wrap_i64]; omega
theorem and15 (n : Int) : bits .and .i64 n 15 = n % 16 := by rw [and_key n 15 4 (by decide), IntKind.wrap_i64]; omega
theorem and16 (n : Int) : bits .and .i64 n 65535 = n % 65536 := by rw [and_key n 65535 16 (by decide), IntKind.wrap_i64]; omega
/-- A bit of a number. -/
theorem bit_at (sp a : Int) (h0 : 0 ≤ a) (h1 : a < 64) : bits .and .i64 (sp.fdiv (2 ^ min a.toNat (IntKind.bits .i64))) 1 = (sp / 2 ^ a.toNat) % 2 := by
  rw [and1, Int.fdiv_eq_ediv_of_nonneg _ (Int.le_of_lt (Int.pow_pos (by decide))), show min a.toNat (IntKind.bits .i64) = a.toNat from Nat.min_eq_left (by show a.toNat ≤ 64; omega)]
end Go.Sx

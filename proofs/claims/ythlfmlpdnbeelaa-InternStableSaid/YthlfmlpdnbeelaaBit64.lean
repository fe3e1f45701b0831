/- Bit64: signs of int64's bits, and remainders by a power of two. No program here. -/
import Derived.Test.YthlfmlpdnbeelaaBase
import Derived.Laws.BitsAllLaws
set_option linter.unusedSimpArgs false
set_option linter.unusedVariables false
namespace Go.Proofs.Ythlfmlpdnbeelaa
open Go Go.RowKit

def ok64 (a : Int) : Prop := -9223372036854775808 ≤ a ∧ a ≤ 9223372036854775807
theorem wrap_toInt (x : BitVec 64) : IntKind.i64.wrap (x.toNat : Int) = x.toInt := by
  rw [IntKind.wrap_i64, BitVec.toInt_eq_toNat_cond]
  have := x.isLt
  split <;> omega
theorem toInt_ofInt64 {a : Int} (h : ok64 a) : (BitVec.ofInt 64 a).toInt = a := by
  rw [BitVec.toInt_ofInt]
  unfold ok64 at h
  unfold Int.bmod
  simp only [Nat.reducePow]
  split <;> omega
theorem msb_ofInt64 {a : Int} (h : ok64 a) : (BitVec.ofInt 64 a).msb = decide (a < 0) := by
  rw [BitVec.msb_eq_toInt, toInt_ofInt64 h]
theorem toInt_ok (x : BitVec 64) : ok64 x.toInt := by
  have h1 := BitVec.toInt_lt (x := x)
  have h2 := BitVec.le_toInt (x := x)
  unfold ok64
  constructor <;> omega
theorem xor_ok (a b : Int) : ok64 (bits .xor .i64 a b) := by
  show ok64 (IntKind.i64.wrap ((BitVec.ofInt 64 a ^^^ BitVec.ofInt 64 b).toNat : Int))
  rw [wrap_toInt]
  exact toInt_ok _
theorem xor_neg {a b : Int} (ha : ok64 a) (hb : ok64 b) : bits .xor .i64 a b < 0 ↔ ¬ (a < 0 ↔ b < 0) := by
  show IntKind.i64.wrap ((BitVec.ofInt 64 a ^^^ BitVec.ofInt 64 b).toNat : Int) < 0 ↔ _
  rw [wrap_toInt]
  have h : (BitVec.ofInt 64 a ^^^ BitVec.ofInt 64 b).msb = _ := BitVec.msb_xor
  rw [BitVec.msb_eq_toInt, msb_ofInt64 ha, msb_ofInt64 hb] at h
  by_cases h1 : a < 0 <;> by_cases h2 : b < 0 <;> simp [h1, h2] at h ⊢ <;> omega
theorem and_neg {a b : Int} (ha : ok64 a) (hb : ok64 b) : bits .and .i64 a b < 0 ↔ (a < 0 ∧ b < 0) := by
  show IntKind.i64.wrap ((BitVec.ofInt 64 a &&& BitVec.ofInt 64 b).toNat : Int) < 0 ↔ _
  rw [wrap_toInt]
  have h : (BitVec.ofInt 64 a &&& BitVec.ofInt 64 b).msb = _ := BitVec.msb_and
  rw [BitVec.msb_eq_toInt, msb_ofInt64 ha, msb_ofInt64 hb] at h
  by_cases h1 : a < 0 <;> by_cases h2 : b < 0 <;> simp [h1, h2] at h ⊢ <;> omega
theorem wrap_ok (n : Int) : ok64 (IntKind.i64.wrap n) := by
  rw [IntKind.wrap_i64]; unfold ok64; omega
theorem wrap_eq {n : Int} (h : ok64 n) : IntKind.i64.wrap n = n := by
  rw [IntKind.wrap_i64]; unfold ok64 at h; omega

/-- n & (2^p - 1). -/
theorem and_mask (n : Int) (p : Nat) (hp : p < 63) : bits .and .i64 n ((2 ^ p : Nat) - 1 : Int) = n % (2 ^ p : Nat) := by
  have hlt : 2 ^ p < 2 ^ 63 := Nat.pow_lt_pow_right (by omega) hp
  have h0 : 0 < 2 ^ p := Nat.two_pow_pos p
  have e1 : ((2 ^ p : Nat) - 1 : Int) = ((2 ^ p - 1 : Nat) : Int) := by omega
  have h2 : (BitVec.ofInt 64 ((2 ^ p : Nat) - 1 : Int)).toNat = 2 ^ p - 1 := by
    rw [e1, BitVec.ofInt_natCast, BitVec.toNat_ofNat]; exact Nat.mod_eq_of_lt (by omega)
  have key : (BitVec.ofInt 64 n &&& BitVec.ofInt 64 ((2 ^ p : Nat) - 1 : Int)).toNat = (n % ((2 ^ 64 : Nat) : Int)).toNat % 2 ^ p := by
    rw [BitVec.toNat_and, BitVec.toNat_ofInt, h2, Nat.and_two_pow_sub_one_eq_mod]
  show IntKind.i64.wrap ((BitVec.ofInt 64 n &&& BitVec.ofInt 64 ((2 ^ p : Nat) - 1 : Int)).toNat : Nat) = _
  rw [key]
  have h3 : (n % ((2 ^ 64 : Nat) : Int)).toNat % 2 ^ p < 2 ^ p := Nat.mod_lt _ h0
  rw [wrap_eq (by unfold ok64; omega)]
  have hd : ((2 ^ p : Nat) : Int) ∣ ((2 ^ 64 : Nat) : Int) := Int.natCast_dvd_natCast.2 (Nat.pow_dvd_pow 2 (by omega))
  rw [Int.natCast_emod, Int.toNat_of_nonneg (Int.emod_nonneg _ (by decide)), Int.emod_emod_of_dvd _ hd]
end Go.Proofs.Ythlfmlpdnbeelaa

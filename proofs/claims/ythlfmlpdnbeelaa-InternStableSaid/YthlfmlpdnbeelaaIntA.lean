/- IntA: layer 3: where a probe begins. -/
import Derived.Test.YthlfmlpdnbeelaaBit64
import Derived.Test.YthlfmlpdnbeelaaInM
set_option linter.unusedSimpArgs false
set_option linter.unusedVariables false
namespace Go.Proofs.Ythlfmlpdnbeelaa
open Go.ChangeShapes Go.WideShapes Go.ChangeAt Go.RowKit

/-- An id, mixed. -/
def imixB (x : Int) : Int := IntKind.u64.wrap (bits .xor .u64 x (x / 2147483648) * 11400714819323198485)
def imix (x : Int) : Int := bits .xor .u64 (imixB x) (imixB x / 536870912)
def ihome (M : Nat) (x : Int) : Nat := (bits .and .u64 (imix x) ((M : Int) - 1)).toNat

theorem and_mask_u (n : Int) (p : Nat) (hp : p < 63) : 0 ≤ bits .and .u64 n ((2 ^ p : Nat) - 1 : Int) ∧ bits .and .u64 n ((2 ^ p : Nat) - 1 : Int) < (2 ^ p : Nat) := by
  have hlt : 2 ^ p < 2 ^ 63 := Nat.pow_lt_pow_right (by omega) hp
  have h0 : 0 < 2 ^ p := Nat.two_pow_pos p
  have e1 : ((2 ^ p : Nat) - 1 : Int) = ((2 ^ p - 1 : Nat) : Int) := by omega
  have h2 : (BitVec.ofInt 64 ((2 ^ p : Nat) - 1 : Int)).toNat = 2 ^ p - 1 := by
    rw [e1, BitVec.ofInt_natCast, BitVec.toNat_ofNat]; exact Nat.mod_eq_of_lt (by omega)
  have key : (BitVec.ofInt 64 n &&& BitVec.ofInt 64 ((2 ^ p : Nat) - 1 : Int)).toNat < 2 ^ p := by
    rw [BitVec.toNat_and, h2, Nat.and_two_pow_sub_one_eq_mod]
    exact Nat.mod_lt _ h0
  show 0 ≤ IntKind.u64.wrap ((BitVec.ofInt 64 n &&& BitVec.ofInt 64 ((2 ^ p : Nat) - 1 : Int)).toNat : Nat) ∧ IntKind.u64.wrap ((BitVec.ofInt 64 n &&& BitVec.ofInt 64 ((2 ^ p : Nat) - 1 : Int)).toNat : Nat) < _
  rw [IntKind.wrap_u64]
  omega
theorem ihome_lt {M p : Nat} (hp : p < 63) (hM : M = 2 ^ p) (x : Int) : ihome M x < M := by
  have := and_mask_u (imix x) p hp
  unfold ihome
  subst hM
  omega
theorem ihome_val {M p : Nat} (hp : p < 63) (hM : M = 2 ^ p) (x : Int) : wrap64 (bits .and .u64 (imix x) (IntKind.u64.wrap (wrap64 ((M : Int) - 1)))) = (ihome M x : Int) := by
  have h1 := and_mask_u (imix x) p hp
  have hlt : 2 ^ p < 2 ^ 63 := Nat.pow_lt_pow_right (by omega) hp
  have h0 : 0 < 2 ^ p := Nat.two_pow_pos p
  subst hM
  have e1 : wrap64 (((2 ^ p : Nat) : Int) - 1) = ((2 ^ p : Nat) : Int) - 1 := by unfold wrap64; omega
  have e2 : IntKind.u64.wrap (((2 ^ p : Nat) : Int) - 1) = ((2 ^ p : Nat) : Int) - 1 := by rw [IntKind.wrap_u64]; omega
  rw [e1, e2]
  unfold ihome wrap64
  omega

set_option maxHeartbeats 1000000 in
theorem iHome_any {w : World} {t M cap : Nat} {a : Option Addr} (hc : w.cell? ⟨t, 3, none⟩ = some (.slice a M cap)) (x : Int) (hx : 0 ≤ x ∧ x < 18446744073709551616) (p : Nat) (hp : p < 63) (hM : M = 2 ^ p) :
    Calls Try.prog 59 #[.pointer (some ⟨t, 0, none⟩), .int .u64 x] w fun r w' => r = .returned (.int .i64 (ihome M x)) ∧ w = w' := by
  have HV := Lib.hid (ihome_val hp hM x)
  clear hM
  go_enter Try.func59, Try.ntmps59
  go_wp2
  go_ret
  refine ⟨?_, rfl⟩
  rw [← HV.out]
  rfl
end Go.Proofs.Ythlfmlpdnbeelaa

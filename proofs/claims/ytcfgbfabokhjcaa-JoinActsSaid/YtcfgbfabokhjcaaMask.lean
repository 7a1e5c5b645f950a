/- Masks: x & (2^k - 1) is x modulo 2^k, whatever the sign of x; and a uint's value is not below 0. -/
import Derived.WalkKit
namespace Go.Proofs.Ytcfgbfabokhjcaa

theorem and_mask (k : Nat) (x : Int) (hk : k < 63) : bits .and .i64 x ((2:Int) ^ k - 1) = x % (2:Int) ^ k := by
  unfold bits
  have e1 : (BitVec.ofInt IntKind.i64.bits ((2:Int) ^ k - 1)).toNat = 2 ^ k - 1 := by
    have h2 : (2:Int)^k - 1 = ((2 ^ k - 1 : Nat) : Int) := by
      have : 1 ≤ 2 ^ k := Nat.one_le_two_pow
      rw [Int.natCast_sub this]; simp
    rw [h2, BitVec.ofInt_natCast, BitVec.toNat_ofNat]
    apply Nat.mod_eq_of_lt
    show 2 ^ k - 1 < 2 ^ 64
    have : 2 ^ k ≤ 2 ^ 64 := Nat.pow_le_pow_right (by omega) (by omega)
    have : 1 ≤ 2 ^ k := Nat.one_le_two_pow
    omega
  have hlt : ((x % 2 ^ 64).toNat % 2 ^ k : Nat) < 2 ^ 63 := by
    have h3 : (x % 2 ^ 64).toNat % 2 ^ k < 2 ^ k := Nat.mod_lt _ (Nat.pos_of_ne_zero (by simp))
    have h4 : 2 ^ k ≤ 2 ^ 63 := Nat.pow_le_pow_right (by omega) (by omega)
    omega
  have e2 : ((BitVec.ofInt IntKind.i64.bits x) &&& (BitVec.ofInt IntKind.i64.bits ((2:Int) ^ k - 1))).toNat = (x % 2 ^ 64).toNat % 2 ^ k := by
    rw [BitVec.toNat_and, e1, Nat.and_two_pow_sub_one_eq_mod, BitVec.toNat_ofInt]
    rfl
  show IntKind.i64.wrap _ = _
  rw [e2]
  have e3 : (((x % 2 ^ 64).toNat % 2 ^ k : Nat) : Int) = x % 2 ^ k := by
    rw [Int.natCast_emod, Int.toNat_of_nonneg (Int.emod_nonneg _ (by decide))]
    have : ((2 ^ k : Nat) : Int) = (2:Int) ^ k := by simp
    rw [this]
    apply Int.emod_emod_of_dvd
    exact ⟨2 ^ (64 - k), by rw [← Int.pow_add]; congr 1; omega⟩
  rw [e3]
  rw [e3.symm]
  generalize (x % 2 ^ 64).toNat % 2 ^ k = n at hlt
  exact IntWalk.i64_in _ (by omega)
theorem and_1 (x : Int) : bits .and .i64 x 1 = x % 2 := and_mask 1 x (by omega)
theorem and_3 (x : Int) : bits .and .i64 x 3 = x % 4 := and_mask 2 x (by omega)
theorem and_7 (x : Int) : bits .and .i64 x 7 = x % 8 := and_mask 3 x (by omega)
theorem and_15 (x : Int) : bits .and .i64 x 15 = x % 16 := and_mask 4 x (by omega)
theorem and_31 (x : Int) : bits .and .i64 x 31 = x % 32 := and_mask 5 x (by omega)
theorem and_63 (x : Int) : bits .and .i64 x 63 = x % 64 := and_mask 6 x (by omega)
theorem and_127 (x : Int) : bits .and .i64 x 127 = x % 128 := and_mask 7 x (by omega)
theorem and_255 (x : Int) : bits .and .i64 x 255 = x % 256 := and_mask 8 x (by omega)
theorem and_511 (x : Int) : bits .and .i64 x 511 = x % 512 := and_mask 9 x (by omega)
theorem and_1023 (x : Int) : bits .and .i64 x 1023 = x % 1024 := and_mask 10 x (by omega)
theorem and_2047 (x : Int) : bits .and .i64 x 2047 = x % 2048 := and_mask 11 x (by omega)
theorem and_4095 (x : Int) : bits .and .i64 x 4095 = x % 4096 := and_mask 12 x (by omega)
theorem and_8191 (x : Int) : bits .and .i64 x 8191 = x % 8192 := and_mask 13 x (by omega)
theorem and_16383 (x : Int) : bits .and .i64 x 16383 = x % 16384 := and_mask 14 x (by omega)
theorem and_32767 (x : Int) : bits .and .i64 x 32767 = x % 32768 := and_mask 15 x (by omega)
theorem and_65535 (x : Int) : bits .and .i64 x 65535 = x % 65536 := and_mask 16 x (by omega)
theorem and_131071 (x : Int) : bits .and .i64 x 131071 = x % 131072 := and_mask 17 x (by omega)
theorem and_262143 (x : Int) : bits .and .i64 x 262143 = x % 262144 := and_mask 18 x (by omega)
theorem and_524287 (x : Int) : bits .and .i64 x 524287 = x % 524288 := and_mask 19 x (by omega)
theorem and_1048575 (x : Int) : bits .and .i64 x 1048575 = x % 1048576 := and_mask 20 x (by omega)

theorem u64_nonneg (x : Int) : 0 ≤ IntKind.u64.wrap x := by simp [IntKind.wrap, IntKind.bits, IntKind.signed]; omega

end Go.Proofs.Ytcfgbfabokhjcaa

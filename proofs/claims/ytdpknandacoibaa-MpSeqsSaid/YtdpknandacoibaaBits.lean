/- Bits of a byte: tables. -/
import Derived.Test.YtdpknandacoibaaMask
import Derived.Test.YtdpknandacoibaaPlain
namespace Go.Proofs.Ytdpknandacoibaa
open Plain
theorem t128 : ∀ n : Fin 256, bits .and .u8 (n.val : Int) 128 = if 128 ≤ n.val then 128 else 0 := by decide +kernel
theorem t64 : ∀ n : Fin 256, bits .and .u8 (n.val : Int) 64 = if 64 ≤ n.val % 128 then 64 else 0 := by decide +kernel
theorem t63 : ∀ n : Fin 256, bits .and .u8 (n.val : Int) 63 = ((n.val % 64 : Nat) : Int) := by decide +kernel
theorem t48 : ∀ n : Fin 256, bits .and .u8 (n.val : Int) 48 = ((n.val / 16 % 4 * 16 : Nat) : Int) := by decide +kernel
theorem t15 : ∀ n : Fin 256, bits .and .u8 (n.val : Int) 15 = ((n.val % 16 : Nat) : Int) := by decide +kernel
theorem t192 : ∀ n : Fin 256, bits .andNot .u8 (n.val : Int) 192 = ((n.val % 64 : Nat) : Int) := by decide +kernel
theorem i48 : ∀ n : Fin 256, bits .and .i64 (n.val : Int) 48 = ((n.val / 16 % 4 * 16 : Nat) : Int) := by decide +kernel

structure Byte (x : Int) : Prop where
  lo : 0 ≤ x
  hi : x ≤ 255
theorem t128' (x : Int) (h : Byte x) : bits .and .u8 x 128 = if 128 ≤ x then 128 else 0 := by
  obtain ⟨m, rfl⟩ := Int.eq_ofNat_of_zero_le h.lo
  have hm : m < 256 := by have := h.hi; omega
  have := t128 ⟨m, hm⟩
  simp only at this
  rw [this]
  split <;> split <;> omega
theorem t64' (x : Int) (h : Byte x) : bits .and .u8 x 64 = if 64 ≤ x % 128 then 64 else 0 := by
  obtain ⟨m, rfl⟩ := Int.eq_ofNat_of_zero_le h.lo
  have hm : m < 256 := by have := h.hi; omega
  have := t64 ⟨m, hm⟩
  simp only at this
  rw [this]
  split <;> split <;> omega
theorem t63' (x : Int) (h : Byte x) : bits .and .u8 x 63 = x % 64 := by
  obtain ⟨m, rfl⟩ := Int.eq_ofNat_of_zero_le h.lo
  have hm : m < 256 := by have := h.hi; omega
  have := t63 ⟨m, hm⟩
  simp only at this
  rw [this]
  omega
theorem t48' (x : Int) (h : Byte x) : bits .and .u8 x 48 = x / 16 % 4 * 16 := by
  obtain ⟨m, rfl⟩ := Int.eq_ofNat_of_zero_le h.lo
  have hm : m < 256 := by have := h.hi; omega
  have := t48 ⟨m, hm⟩
  simp only at this
  rw [this]
  omega
theorem t15' (x : Int) (h : Byte x) : bits .and .u8 x 15 = x % 16 := by
  obtain ⟨m, rfl⟩ := Int.eq_ofNat_of_zero_le h.lo
  have hm : m < 256 := by have := h.hi; omega
  have := t15 ⟨m, hm⟩
  simp only at this
  rw [this]
  omega
theorem t192' (x : Int) (h : Byte x) : bits .andNot .u8 x 192 = x % 64 := by
  obtain ⟨m, rfl⟩ := Int.eq_ofNat_of_zero_le h.lo
  have hm : m < 256 := by have := h.hi; omega
  have := t192 ⟨m, hm⟩
  simp only at this
  rw [this]
  omega
theorem i48' (x : Int) (h : Byte x) : bits .and .i64 x 48 = x / 16 % 4 * 16 := by
  obtain ⟨m, rfl⟩ := Int.eq_ofNat_of_zero_le h.lo
  have hm : m < 256 := by have := h.hi; omega
  have := i48 ⟨m, hm⟩
  simp only at this
  rw [this]
  omega
end Go.Proofs.Ytdpknandacoibaa

/- Chapter 20: finite checks over the model. -/
import Derived.Test.YtjcndeanojeffaaCon
namespace Go.Proofs.Ytjcndeanojeffaa
namespace Plain
open Go
def okC (S : Q) : Bool := decide (S.cut + S.packs.length < 1000000)
def s8 : ByteArray := ⟨#[97, 98, 99, 100, 101, 102, 103, 104]⟩
def chkG : Nat → Q → Bool
  | 0, S => okC S && decide (S.submitE ⟨#[122]⟩ = 0) && okC (S.submitS ⟨#[122]⟩) && decide ((S.submitS ⟨#[122]⟩).submitE ⟨#[]⟩ = 2000)
  | n + 1, S => okC S && decide (S.submitE ⟨#[121]⟩ = 2001) && decide ((S.submitS ⟨#[121]⟩).len = 64) && chkG n ((S.submitS ⟨#[121]⟩).takeS 0)
def chkF (P : Nat) : Nat → Q → Nat → Bool
  | 0, S, _ => okC S && decide (S.submitE ⟨#[120]⟩ = 2001) && chkG P (S.submitS ⟨#[120]⟩)
  | n + 1, S, t => okC S && decide (S.submitE s8 = 0) && decide ((S.submitS s8).len = t + 1) && chkF P n (S.submitS s8) (t + 1)
theorem chk_full8 : ∀ k : Fin 8, chkF ((8 + (k.val + 1) - 1) / (k.val + 1)) 64 ((Q.new ((k.val : Int) + 1) false).addS 0) 0 = true := by decide +kernel
theorem chk_full {k : Int} (h0 : 1 ≤ k) (h1 : k ≤ 8) : ∃ P : Nat, P ≤ 8 ∧ (8 + k - 1).tdiv k = P ∧ chkF P (64 - 0) ((Q.new k false).addS 0) 0 = true := by
  have h := chk_full8 ⟨k.toNat - 1, by omega⟩
  simp only at h
  have e1 : k.toNat - 1 + 1 = k.toNat := by omega
  have e2 : ((k.toNat - 1 : Nat) : Int) + 1 = k := by omega
  rw [e1, e2] at h
  refine ⟨_, ?_, ?_, h⟩
  · have : (8 + k.toNat - 1) / k.toNat < 9 := by rw [Nat.div_lt_iff_lt_mul (by omega)]; omega
    omega
  · obtain ⟨n, rfl⟩ := Int.eq_ofNat_of_zero_le (by omega : 0 ≤ k)
    have : (8 + (n : Int) - 1) = ((8 + n - 1 : Nat) : Int) := by omega
    rw [this]
    simp only [Int.toNat_natCast]
    rfl
end Plain
end Go.Proofs.Ytjcndeanojeffaa

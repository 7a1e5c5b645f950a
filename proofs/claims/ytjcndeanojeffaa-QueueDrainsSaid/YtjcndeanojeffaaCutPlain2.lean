/- The plain mathematics of chapter 18: cuts of one size. No program in sight. -/
import Derived.Test.YtjcndeanojeffaaCutPlain
namespace Go.Proofs.Ytjcndeanojeffaa
namespace Plain
open Go

theorem pos_one (L : Nat) (k : Int) (i : Nat) : pos L (fun _ => k) 1 i = min L (i * k.toNat) := by
  induction i with
  | zero => simp [pos]
  | succ i ih => rw [pos_succ, ih, Nat.succ_mul]; omega

theorem ceil_lt (L k j : Nat) (hk : 1 ≤ k) : j < (L + k - 1) / k ↔ j * k < L := by
  rw [← Nat.succ_le_iff, Nat.le_div_iff_mul_le (by omega), Nat.succ_mul]
  omega

theorem cuts_one (L : Nat) (k : Int) (hk : 1 ≤ k) : Cuts L (fun _ => k) 1 ((L + k.toNat - 1) / k.toNat) := by
  have h := fun j => ceil_lt L k.toNat j (by omega)
  refine ⟨?_, fun j hj => ?_⟩
  · rw [pos_one]
    have : ¬ ((L + k.toNat - 1) / k.toNat * k.toNat < L) := fun x => Nat.lt_irrefl _ ((h ((L + k.toNat - 1) / k.toNat)).2 x)
    omega
  · rw [pos_one]
    have := (h j).1 hj
    omega

theorem bad_one (L : Nat) (k q : Int) (short : Bool) : Bad L (fun _ => k) 1 q short ↔ (L < 1 ∨ 1500 < L ∨ q < 0 ∨ ring short ≤ q ∨ k < 1 ∨ 1500 < k ∨ 64 * k.toNat < L) := by
  unfold Bad
  rw [pos_one]
  constructor
  · rintro (h | h | h | h | h | h | ⟨i, _, h⟩ | h) <;> (try simp only at h) <;> omega
  · rintro (h | h | h | h | h | h | h)
    · omega
    · omega
    · omega
    · omega
    · exact .inr (.inr (.inr (.inr (.inr (.inr (.inl ⟨0, by omega, by simp only; omega⟩))))))
    · exact .inr (.inr (.inr (.inr (.inr (.inr (.inl ⟨0, by omega, by simp only; omega⟩))))))
    · omega

theorem awake_cuts (n : Nat) (h : Cuts 5 (fun _ => 2) 1 n) : n = 3 := h.unique (cuts_one 5 2 (by omega))
theorem awake_frs : frs ⟨#[97, 98, 99, 100, 101]⟩ (fun _ => 2) 1 16777215 (ring false) 3 = [⟨true, false, 16777215, ⟨#[97, 98]⟩⟩, ⟨false, false, 0, ⟨#[99, 100]⟩⟩, ⟨false, true, 1, ⟨#[101]⟩⟩] := by
  simp only [frs, List.range, List.range.loop, List.map_cons, List.map_nil, fr, pos_one, ring]
  rfl
end Plain
end Go.Proofs.Ytjcndeanojeffaa

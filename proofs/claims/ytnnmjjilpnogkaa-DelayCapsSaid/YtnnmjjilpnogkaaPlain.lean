/- The plain mathematics of chapter 12: the doubled base under a cap. No program in sight. -/
namespace Go.Proofs.Ytnnmjjilpnogkaa
namespace Plain

/-- the delay without jitter after k doublings. -/
def D (b m : Int) : Nat → Int
  | 0 => b
  | k + 1 => if 2 * D b m k ≤ m then 2 * D b m k else m

theorem D_bd (b m : Int) (h1 : 1 ≤ b) (h2 : b ≤ m) (k : Nat) : b ≤ D b m k ∧ D b m k ≤ m := by
  induction k with
  | zero => simp [D]; omega
  | succ k ih => simp only [D]; split <;> omega

theorem D_succ (b m : Int) (k : Nat) : D b m (k + 1) = if 2 * D b m k ≤ m then 2 * D b m k else m := rfl

theorem D_top (b m : Int) (h : 1 ≤ m) (k i : Nat) (e : D b m k = m) : D b m (k + i) = m := by
  induction i with
  | zero => exact e
  | succ i ih => rw [← Nat.add_assoc, D_succ, ih]; split <;> omega

theorem D_top_le (b m : Int) (h : 1 ≤ m) (k n : Nat) (hk : k ≤ n) (e : D b m k = m) : D b m n = m := by
  have := D_top b m h k (n - k) e
  rwa [show k + (n - k) = n by omega] at this

/-- the reference's loop: doubled while below the cap. -/
def R (b m : Int) : Nat → Int
  | 0 => b
  | k + 1 => if R b m k < m then 2 * R b m k else R b m k

theorem R_bd (b m : Int) (h1 : 1 ≤ b) (h2 : b ≤ m) (k : Nat) : 1 ≤ R b m k ∧ R b m k ≤ 2 * m := by
  induction k with
  | zero => simp [R]; omega
  | succ k ih => simp only [R]; split <;> omega

theorem R_D (b m : Int) (h1 : 1 ≤ b) (h2 : b ≤ m) (k : Nat) : (R b m k < m → R b m k = D b m k) ∧ (m ≤ R b m k → D b m k = m) := by
  induction k with
  | zero => simp [R, D]; omega
  | succ k ih =>
    have := D_bd b m h1 h2 k
    have := R_bd b m h1 h2 k
    obtain ⟨i1, i2⟩ := ih
    simp only [R, D]
    by_cases hR : R b m k < m
    · rw [if_pos hR, i1 hR]; constructor
      · intro h; rw [if_pos (by omega)]
      · intro h; split <;> omega
    · rw [if_neg hR]
      have e := i2 (by omega)
      constructor
      · intro h; omega
      · intro _; rw [e]; split <;> omega

theorem R_min (b m : Int) (h1 : 1 ≤ b) (h2 : b ≤ m) (k : Nat) : min (R b m k) m = D b m k := by
  have := D_bd b m h1 h2 k
  by_cases hR : R b m k < m
  · have := (R_D b m h1 h2 k).1 hR; omega
  · have := (R_D b m h1 h2 k).2 (by omega); omega

theorem D_mono_k (b m : Int) (h1 : 1 ≤ b) (h2 : b ≤ m) (k : Nat) : D b m k ≤ D b m (k + 1) ∧ D b m (k + 1) ≤ 2 * D b m k := by
  have := D_bd b m h1 h2 k
  rw [D_succ]; split <;> omega

theorem D_mono_m (b m k : Int) (h1 : 1 ≤ b) (h2 : b ≤ m) (hk : 0 ≤ k) (t : Nat) : D b m t ≤ D b (m + k) t := by
  induction t with
  | zero => simp [D]
  | succ t ih =>
    have := D_bd b m h1 h2 t
    have := D_bd b (m + k) h1 (by omega) t
    rw [D_succ, D_succ]; split <;> split <;> omega

theorem D_mono_b (b c m : Int) (h1 : 1 ≤ b) (h2 : b ≤ c) (h3 : c ≤ m) (t : Nat) : D b m t ≤ D c m t := by
  induction t with
  | zero => simpa [D] using h2
  | succ t ih =>
    have := D_bd b m h1 (by omega) t
    have := D_bd c m (by omega) h3 t
    rw [D_succ, D_succ]; split <;> split <;> omega

theorem D_pow (b m : Int) (h1 : 1 ≤ b) (h2 : b ≤ m) (t : Nat) : D b m t = m ∨ D b m t = b * 2 ^ t := by
  induction t with
  | zero => right; simp [D]
  | succ t ih =>
    have hb := D_bd b m h1 h2 t
    rw [D_succ]
    rcases ih with e | e
    · left; rw [e]; split <;> omega
    · split
      · right; rw [e, Int.pow_succ]; rw [Int.mul_comm 2, Int.mul_assoc]
      · left; rfl

theorem D_small (b m : Int) (h1 : 1 ≤ b) (t : Nat) (h : b * 2 ^ t ≤ m) : D b m t = b * 2 ^ t := by
  induction t with
  | zero => simp [D]
  | succ t ih =>
    have e : b * 2 ^ (t + 1) = 2 * (b * 2 ^ t) := by rw [Int.pow_succ, Int.mul_comm 2, Int.mul_assoc]
    have hp : 0 ≤ b * 2 ^ t := Int.mul_nonneg (by omega) (Int.pow_nonneg (by omega))
    rw [D_succ, ih (by omega), if_pos (by omega), e]

end Plain
end Go.Proofs.Ytnnmjjilpnogkaa

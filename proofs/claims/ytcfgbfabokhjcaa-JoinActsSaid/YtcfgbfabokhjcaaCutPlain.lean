/- Where a packet is cut (as chapter 18 has it). No program in sight. -/
import Derived.Test.YtcfgbfabokhjcaaPlain
namespace Go.Proofs.Ytcfgbfabokhjcaa
namespace Cutp
open Plain (Fr ring)
open Go

/-- where the i-th fragment begins: L bytes, sizes z, m of them. -/
def pos (L : Nat) (z : Nat → Int) (m : Nat) : Nat → Nat
  | 0 => 0
  | i + 1 => min L (pos L z m i + (z (i % m)).toNat)

theorem pos_le (L : Nat) (z : Nat → Int) (m i : Nat) : pos L z m i ≤ L := by
  cases i with
  | zero => exact Nat.zero_le _
  | succ i => exact Nat.min_le_left _ _
theorem pos_succ (L : Nat) (z : Nat → Int) (m i : Nat) : pos L z m (i + 1) = min L (pos L z m i + (z (i % m)).toNat) := rfl
theorem pos_lt (L : Nat) (z : Nat → Int) (m i : Nat) (h : pos L z m i < L) (hz : 1 ≤ z (i % m)) : pos L z m i < pos L z m (i + 1) := by
  rw [pos_succ]; omega
theorem pos_mono (L : Nat) (z : Nat → Int) (m i : Nat) : pos L z m i ≤ pos L z m (i + 1) := by
  rw [pos_succ]; have := pos_le L z m i; omega
theorem pos_mono' (L : Nat) (z : Nat → Int) (m i j : Nat) (h : i ≤ j) : pos L z m i ≤ pos L z m j := by
  induction j with
  | zero => rw [show i = 0 by omega]; exact Nat.le_refl _
  | succ j ih =>
    by_cases e : i = j + 1
    · rw [e]; exact Nat.le_refl _
    · exact Nat.le_trans (ih (by omega)) (pos_mono L z m j)
theorem pos_top (L : Nat) (z : Nat → Int) (m i j : Nat) (h : i ≤ j) (e : pos L z m i = L) : pos L z m j = L := by
  have := pos_mono' L z m i j h
  have := pos_le L z m j
  omega
/-- while the end is not reached each fragment has a byte. -/
theorem pos_ge (L : Nat) (z : Nat → Int) (m : Nat) (hz : ∀ i, i < m → 1 ≤ z i) (hm : 0 < m) (i : Nat) (h : ∀ j, j < i → pos L z m j < L) : i ≤ pos L z m i := by
  induction i with
  | zero => exact Nat.zero_le _
  | succ i ih =>
    have h1 := ih (fun j hj => h j (by omega))
    have h2 := pos_lt L z m i (h i (by omega)) (hz _ (Nat.mod_lt _ hm))
    omega

def frCells (f : Fr) : List Value := [.bool f.b, .bool f.e, .int .i64 f.q, .string f.d]
def flatF (l : List Fr) : List Value := l.flatMap frCells

theorem flatF_length (l : List Fr) : (flatF l).length = l.length * 4 := by
  unfold flatF
  induction l with
  | nil => rfl
  | cons x l ih => rw [List.flatMap_cons, List.length_append, ih]; simp [frCells]; omega
theorem flatF_snoc (l : List Fr) (f : Fr) : flatF (l ++ [f]) = flatF l ++ frCells f := by unfold flatF; simp
theorem flatF_get (l : List Fr) (i : Nat) (h : i < l.length) : (flatF l)[i * 4]? = some (.bool l[i].b) ∧ (flatF l)[i * 4 + 1]? = some (.bool l[i].e) ∧ (flatF l)[i * 4 + 2]? = some (.int .i64 l[i].q) ∧ (flatF l)[i * 4 + 3]? = some (.string l[i].d) := by
  unfold flatF
  induction l generalizing i with
  | nil => simp at h
  | cons x l ih =>
    rw [List.flatMap_cons]
    cases i with
    | zero => simp [frCells]
    | succ i =>
      have := ih i (by simpa using h)
      have e : (i + 1) * 4 = i * 4 + 1 + 1 + 1 + 1 := by omega
      simp [frCells, e] at this ⊢
      exact this

/-- the i-th fragment of a packet. -/
def fr (s : ByteArray) (z : Nat → Int) (m : Nat) (q R : Int) (i : Nat) : Fr :=
  ⟨i == 0, pos s.size z m (i + 1) == s.size, (q + i) % R, s.extract (pos s.size z m i) (pos s.size z m (i + 1))⟩
def frs (s : ByteArray) (z : Nat → Int) (m : Nat) (q R : Int) (n : Nat) : List Fr := (List.range n).map (fr s z m q R)
theorem frs_length (s : ByteArray) (z : Nat → Int) (m : Nat) (q R : Int) (n : Nat) : (frs s z m q R n).length = n := by simp [frs]
theorem frs_succ (s : ByteArray) (z : Nat → Int) (m : Nat) (q R : Int) (n : Nat) : frs s z m q R (n + 1) = frs s z m q R n ++ [fr s z m q R n] := by simp [frs, List.range_succ]
theorem frs_get (s : ByteArray) (z : Nat → Int) (m : Nat) (q R : Int) (n i : Nat) (h : i < (frs s z m q R n).length) : (frs s z m q R n)[i] = fr s z m q R i := by simp [frs]

/-- so many fragments. -/
structure Cuts (L : Nat) (z : Nat → Int) (m n : Nat) : Prop where
  top : pos L z m n = L
  lt : ∀ j, j < n → pos L z m j < L

theorem Cuts.unique {L : Nat} {z : Nat → Int} {m n k : Nat} (a : Cuts L z m n) (b : Cuts L z m k) : n = k := by
  rcases Nat.lt_trichotomy n k with h | h | h
  · have := b.lt n h; have := a.top; omega
  · exact h
  · have := a.lt k h; have := b.top; omega

/-- a call that may not be. -/
def Bad (L : Nat) (z : Nat → Int) (m : Nat) (q : Int) (short : Bool) : Prop :=
  L < 1 ∨ 1500 < L ∨ m < 1 ∨ 64 < m ∨ q < 0 ∨ ring short ≤ q ∨ (∃ i, i < m ∧ (z i < 1 ∨ 1500 < z i)) ∨ pos L z m 64 < L

theorem extract_extract' (s : ByteArray) (a b c d : Nat) : (s.extract a b).extract c d = s.extract (a + c) (min (a + d) b) := by
  apply ByteArray.ext
  simp only [ByteArray.data_extract]
  rw [Array.extract_extract]

theorem pos_one (L : Nat) (k : Int) (i : Nat) : pos L (fun _ => k) 1 i = min L (i * k.toNat) := by
  induction i with
  | zero => simp [pos]
  | succ i ih => rw [pos_succ, ih, Nat.succ_mul]; omega

theorem ceil_lt (L k j : Nat) (hk : 1 ≤ k) : j < (L + k - 1) / k ↔ j * k < L := by
  rw [← Nat.succ_le_iff, Nat.le_div_iff_mul_le (by omega), Nat.succ_mul]
  omega

theorem cuts_one (L : Nat) (k : Int) (hk : 1 ≤ k) : Cuts L (fun _ => k) 1 ((L + k.toNat - 1) / k.toNat) := by
  have h := fun j => ceil_lt L k.toNat j (by omega)
  refine ⟨?_, fun j hj => ?_⟩
  · rw [pos_one]
    have : ¬ ((L + k.toNat - 1) / k.toNat * k.toNat < L) := fun x => Nat.lt_irrefl _ ((h ((L + k.toNat - 1) / k.toNat)).2 x)
    omega
  · rw [pos_one]
    have := (h j).1 hj
    omega

theorem bad_one (L : Nat) (k q : Int) (short : Bool) : Bad L (fun _ => k) 1 q short ↔ (L < 1 ∨ 1500 < L ∨ q < 0 ∨ ring short ≤ q ∨ k < 1 ∨ 1500 < k ∨ 64 * k.toNat < L) := by
  unfold Bad
  rw [pos_one]
  constructor
  · rintro (h | h | h | h | h | h | ⟨i, _, h⟩ | h) <;> (try simp only at h) <;> omega
  · rintro (h | h | h | h | h | h | h)
    · omega
    · omega
    · omega
    · omega
    · exact .inr (.inr (.inr (.inr (.inr (.inr (.inl ⟨0, by omega, by simp only; omega⟩))))))
    · exact .inr (.inr (.inr (.inr (.inr (.inr (.inl ⟨0, by omega, by simp only; omega⟩))))))
    · omega

end Cutp
end Go.Proofs.Ytcfgbfabokhjcaa

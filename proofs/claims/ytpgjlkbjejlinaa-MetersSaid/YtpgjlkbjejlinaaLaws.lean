/- The plain mathematics of chapter 23's laws. No program in sight. -/
import Derived.Test.YtpgjlkbjejlinaaAwake
namespace Go.Proofs.Ytpgjlkbjejlinaa
open Plain

/-- how long a run went one way. -/
def eff (R : Run) (d : Int) : Int := if R.way = d then R.long else 0

theorem turn_on (R : Run) (d k : Int) (hd : d ≠ 0) (h : eff R d + 1 < k) : (turn R d k).2 = 0 ∧ (turn R d k).1 = ⟨d, eff R d + 1⟩ := by
  unfold eff at *
  unfold turn
  rw [if_neg hd, if_pos h]
  exact ⟨rfl, rfl⟩
theorem turn_end (R : Run) (d k : Int) (hd : d ≠ 0) (h : k ≤ eff R d + 1) : (turn R d k).2 = d ∧ (turn R d k).1 = ⟨d, 0⟩ := by
  unfold eff at *
  unfold turn
  rw [if_neg hd, if_neg (by omega)]
  exact ⟨rfl, rfl⟩
theorem turn_none (R : Run) (k : Int) : (turn R 0 k).2 = 0 ∧ (turn R 0 k).1.way = 0 := by
  unfold turn
  rw [if_pos rfl]
  exact ⟨rfl, rfl⟩
theorem eff_mk (d c : Int) : eff ⟨d, c⟩ d = c := by simp [eff]
/-- while a run is short nothing is told. -/
theorem turn_short (R : Run) (d k : Int) (h0 : 0 ≤ R.long) (h : R.long + 1 < k) : (turn R d k).2 = 0 ∧ (turn R d k).1.long ≤ R.long + 1 := by
  by_cases hd : d = 0
  · subst hd
    refine ⟨(turn_none R k).1, ?_⟩
    unfold turn
    rw [if_pos rfl]
    show (if R.way = 0 then R.long else 0) ≤ _
    split <;> omega
  · have he : eff R d ≤ R.long := by unfold eff; split <;> omega
    obtain ⟨h1, h2⟩ := turn_on R d k hd (by omega)
    rw [h1, h2]
    exact ⟨rfl, by show eff R d + 1 ≤ _; omega⟩

theorem s1_rep (n : Nat) (a b : Int) : s1 (List.replicate n (a, b)) = n * a := by
  induction n with
  | zero => simp [s1]
  | succ n ih => rw [List.replicate_succ]; simp only [s1]; rw [ih, Int.natCast_succ, Int.add_mul]; omega
theorem s2_rep (n : Nat) (a b : Int) : s2 (List.replicate n (a, b)) = n * b := by
  induction n with
  | zero => simp [s2]
  | succ n ih => rw [List.replicate_succ]; simp only [s2]; rw [ih, Int.natCast_succ, Int.add_mul]; omega

/-- a window whose last j ticks are x. -/
def Ends (W : List (Int × Int)) (j : Nat) (x : Int × Int) : Prop := ∃ A, W = A ++ List.replicate j x
theorem Ends.push {W : List (Int × Int)} {j : Nat} {x : Int × Int} (h : Ends W j x) (hj : j < W.length) : Ends (push W x) (j + 1) x := by
  obtain ⟨A, rfl⟩ := h
  cases A with
  | nil => simp at hj
  | cons a A => exact ⟨A, by unfold Plain.push; simp [List.replicate_succ']⟩
theorem Ends.whole {W : List (Int × Int)} {j : Nat} {x : Int × Int} (h : Ends W j x) (hj : j = W.length) : W = List.replicate j x := by
  obtain ⟨A, rfl⟩ := h
  have : A = [] := by
    apply List.eq_nil_of_length_eq_zero
    rw [List.length_append, List.length_replicate] at hj
    omega
  simp [this]

theorem share_rep (n : Nat) (x : Int) (h1 : 1 ≤ n) (h2 : n ≤ 16) (hx : 0 ≤ x) (hx' : x ≤ 1023) : shareOf (List.replicate n (x, 1023)) = 1000 * x / 1023 := by
  unfold shareOf shr
  rw [s1_rep, s2_rep, if_pos (by omega)]
  have : 1000 * ((n : Int) * x) / ((n : Int) * 1023) = 1000 * x / 1023 := by
    rw [show 1000 * ((n : Int) * x) = (n : Int) * (1000 * x) by rw [← Int.mul_assoc, Int.mul_comm 1000, Int.mul_assoc]]
    exact Int.mul_ediv_mul_of_pos _ _ (by omega)
  rw [this]
  omega

theorem push_one (y x : Int × Int) : push [y] x = [x] := rfl
theorem len_one {W : List (Int × Int)} (h : W.length = 1) (x : Int × Int) : push W x = [x] := by
  match W, h with
  | [y], _ => rfl
theorem sh90 : shareOf [(90, 100)] = 900 := by decide
theorem sh50 : shareOf [(50, 100)] = 500 := by decide

/-- four ticks alike. -/
def four (t : Nat) (s : Int) : List (Int × Int) := List.replicate (4 - min t 4) (0, 0) ++ List.replicate (min t 4) (s, 1000)
theorem four_push (t : Nat) (s : Int) : push (four t s) (s, 1000) = four (t + 1) s := by
  unfold push four
  by_cases h : t < 4
  · rw [show min t 4 = t by omega, show min (t + 1) 4 = t + 1 by omega, show 4 - t = (4 - (t + 1)) + 1 by omega, List.replicate_succ, List.cons_append, List.tail_cons, List.append_assoc, List.replicate_succ']
  · rw [show min t 4 = 4 by omega, show min (t + 1) 4 = 4 by omega]
    rfl
theorem four_share (t : Nat) (s : Int) (h : 1 ≤ t) (h0 : 0 ≤ s) (h1 : s ≤ 1000) : shareOf (four t s) = s := by
  unfold shareOf shr four
  rw [s1_append, s2_append, s1_rep, s1_rep, s2_rep, s2_rep]
  obtain ⟨m, hm, hm1, hm4⟩ : ∃ m : Nat, min t 4 = m ∧ 1 ≤ m ∧ m ≤ 4 := ⟨min t 4, rfl, by omega, by omega⟩
  rw [hm]
  rcases (show m = 1 ∨ m = 2 ∨ m = 3 ∨ m = 4 by omega) with rfl | rfl | rfl | rfl <;> (rw [if_pos (by omega)]; omega)
end Go.Proofs.Ytpgjlkbjejlinaa

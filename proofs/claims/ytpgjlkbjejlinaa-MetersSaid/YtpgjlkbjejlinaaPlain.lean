/- The plain mathematics of chapter 23: a ring of ticks, its sums, the window in its row. No program in sight. -/
namespace Go.Proofs.Ytpgjlkbjejlinaa
namespace Plain

/-- the sums of what was sent, and of what came. -/
def s1 : List (Int × Int) → Int
  | [] => 0
  | x :: l => x.1 + s1 l
def s2 : List (Int × Int) → Int
  | [] => 0
  | x :: l => x.2 + s2 l

theorem s1_append (a b : List (Int × Int)) : s1 (a ++ b) = s1 a + s1 b := by
  induction a with
  | nil => simp [s1]
  | cons x a ih => simp [s1, ih]; omega
theorem s2_append (a b : List (Int × Int)) : s2 (a ++ b) = s2 a + s2 b := by
  induction a with
  | nil => simp [s2]
  | cons x a ih => simp [s2, ih]; omega

/-- a tick that may be. -/
def Ok (x : Int × Int) : Prop := 0 ≤ x.1 ∧ x.1 ≤ 2147483647 ∧ 0 ≤ x.2 ∧ x.2 ≤ 2147483647

theorem s_bd (l : List (Int × Int)) (h : ∀ x ∈ l, Ok x) : 0 ≤ s1 l ∧ s1 l ≤ 2147483647 * l.length ∧ 0 ≤ s2 l ∧ s2 l ≤ 2147483647 * l.length := by
  induction l with
  | nil => simp [s1, s2]
  | cons x l ih =>
    have h1 := h x (by simp)
    have h2 := ih (fun y hy => h y (by simp [hy]))
    unfold Ok at h1
    simp only [s1, s2, List.length_cons]
    omega

/-- the ring read from a place on. -/
def rot (R : List (Int × Int)) (k : Nat) : List (Int × Int) := R.drop k ++ R.take k

theorem rot_length (R : List (Int × Int)) (k : Nat) : (rot R k).length = R.length := by
  unfold rot; rw [List.length_append, List.length_drop, List.length_take]; omega
theorem s1_rot (R : List (Int × Int)) (k : Nat) : s1 (rot R k) = s1 R := by
  unfold rot
  rw [s1_append, Int.add_comm, ← s1_append, List.take_append_drop]
theorem s2_rot (R : List (Int × Int)) (k : Nat) : s2 (rot R k) = s2 R := by
  unfold rot
  rw [s2_append, Int.add_comm, ← s2_append, List.take_append_drop]
theorem mem_rot (R : List (Int × Int)) (k : Nat) (x : Int × Int) : x ∈ rot R k ↔ x ∈ R := by
  unfold rot
  rw [List.mem_append, Or.comm, ← List.mem_append, List.take_append_drop]

theorem rot_set (R : List (Int × Int)) (k : Nat) (hk : k < R.length) (x : Int × Int) :
    rot (R.set k x) ((k + 1) % R.length) = (rot R k).tail ++ [x] := by
  unfold rot
  have hd : R.drop k = R[k] :: R.drop (k + 1) := List.drop_eq_getElem_cons hk
  rw [hd]
  simp only [List.cons_append, List.tail_cons]
  by_cases h : k + 1 = R.length
  · rw [h, Nat.mod_self]
    simp only [List.drop_zero, List.take_zero, List.append_nil]
    rw [List.drop_eq_nil_of_le (Nat.le_refl _), List.nil_append]
    apply List.ext_getElem
    · simp; omega
    · intro i h1 h2
      rw [List.getElem_set]
      simp at h1
      by_cases e : k = i
      · subst e; simp; rw [List.getElem_append_right (by simp; omega)]; simp
      · rw [if_neg e, List.getElem_append_left (by simp; omega)]; simp
  · rw [Nat.mod_eq_of_lt (by omega)]
    rw [List.drop_set_of_lt (by omega), List.append_assoc]
    congr 1
    rw [List.take_succ_eq_append_getElem (by simpa using hk)]
    simp [List.take_set_of_le]

theorem s1_tail (W : List (Int × Int)) (x : Int × Int) (h : 0 < W.length) : s1 (W.tail ++ [x]) = s1 W + (x.1 - (W[0]'h).1) := by
  cases W with
  | nil => simp at h
  | cons y W => simp [s1_append, s1]; omega
theorem s2_tail (W : List (Int × Int)) (x : Int × Int) (h : 0 < W.length) : s2 (W.tail ++ [x]) = s2 W + (x.2 - (W[0]'h).2) := by
  cases W with
  | nil => simp at h
  | cons y W => simp [s2_append, s2]; omega
theorem rot_head (R : List (Int × Int)) (k : Nat) (hk : k < R.length) (h : 0 < (rot R k).length) : (rot R k)[0] = R[k] := by
  have hd : R.drop k = R[k] :: R.drop (k + 1) := List.drop_eq_getElem_cons hk
  unfold rot
  simp only [hd, List.cons_append, List.getElem_cons_zero]

theorem s1_set (R : List (Int × Int)) (k : Nat) (hk : k < R.length) (x : Int × Int) : s1 (R.set k x) = s1 R + (x.1 - R[k].1) := by
  induction R generalizing k with
  | nil => simp at hk
  | cons y R ih =>
    cases k with
    | zero => simp [s1]; omega
    | succ k => simp only [List.set_cons_succ, s1, List.getElem_cons_succ]; rw [ih k (by simpa using hk)]; omega
theorem s2_set (R : List (Int × Int)) (k : Nat) (hk : k < R.length) (x : Int × Int) : s2 (R.set k x) = s2 R + (x.2 - R[k].2) := by
  induction R generalizing k with
  | nil => simp at hk
  | cons y R ih =>
    cases k with
    | zero => simp [s2]; omega
    | succ k => simp only [List.set_cons_succ, s2, List.getElem_cons_succ]; rw [ih k (by simpa using hk)]; omega

/-- the share of two sums. -/
def shr (a b : Int) : Int := if 0 < b then min 1000 (1000 * a / b) else 0
theorem shr_bd (a b : Int) (h : 0 ≤ a) : 0 ≤ shr a b ∧ shr a b ≤ 1000 := by
  unfold shr
  split
  · have := Int.ediv_nonneg (show 0 ≤ 1000 * a by omega) (show 0 ≤ b by omega)
    omega
  · omega
/-- above 1, below -1, neither 0. -/
def dirOf (s h l : Int) : Int := if h ≤ s then 1 else if s ≤ l then -1 else 0
/-- a run: its way, how long it was. -/
structure Run where
  way : Int
  long : Int
/-- one turn: the run behind it, and the answer. -/
def turn (r : Run) (d k : Int) : Run × Int :=
  if d = 0 then (⟨0, if r.way = 0 then r.long else 0⟩, 0)
  else if (if r.way = d then r.long else 0) + 1 < k then (⟨d, (if r.way = d then r.long else 0) + 1⟩, 0) else (⟨d, 0⟩, d)
/-- the window behind a tick; its share. -/
def push (W : List (Int × Int)) (x : Int × Int) : List (Int × Int) := W.tail ++ [x]
def shareOf (W : List (Int × Int)) : Int := shr (s1 W) (s2 W)

end Plain
end Go.Proofs.Ytpgjlkbjejlinaa

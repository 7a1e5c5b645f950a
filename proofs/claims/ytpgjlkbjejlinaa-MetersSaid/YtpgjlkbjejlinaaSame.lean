/- Chapter 23: the document's Meter and the program's tell the same. No program in sight. -/
import Derived.Test.YtpgjlkbjejlinaaRef
namespace Go.Proofs.Ytpgjlkbjejlinaa
open Plain

theorem s1_zeros (j : Nat) (H : List (Int × Int)) : s1 (List.replicate j (0, 0) ++ H) = s1 H := by rw [s1_append, s1_zero]; omega
theorem s2_zeros (j : Nat) (H : List (Int × Int)) : s2 (List.replicate j (0, 0) ++ H) = s2 H := by rw [s2_append, s2_zero]; omega
theorem share_zeros (j : Nat) (H : List (Int × Int)) : shareOf (List.replicate j (0, 0) ++ H) = shareOf H := by
  unfold shareOf; rw [s1_zeros, s2_zeros]

/-- the document's state (H, sh, ab, be) and the program's s. -/
structure Eqv (n : Nat) (k : Int) (s : St) (H : List (Int × Int)) (sh ab be : Int) : Prop where
  ew : s.W = List.replicate (n - H.length) (0, 0) ++ H
  le : H.length ≤ n
  esh : s.sh = sh
  eab : eff s.R 1 = ab
  ebe : eff s.R (-1) = be
  a1 : 0 ≤ ab
  a2 : ab < k
  b1 : 0 ≤ be
  b2 : be < k
  ok : ∀ x ∈ H, Ok x

theorem Eqv.first (n : Nat) (k : Int) (hk : 1 ≤ k) : Eqv n k (st0 n) [] 0 0 0 :=
  ⟨by simp [st0, zeros], by simp, rfl, by simp [st0, run0, eff], by simp [st0, run0, eff], by omega, by omega, by omega, by omega, by simp⟩

theorem push_next (n : Nat) (W H : List (Int × Int)) (x : Int × Int) (hn : 1 ≤ n) (hw : W = List.replicate (n - H.length) (0, 0) ++ H) (hl : H.length ≤ n) :
    push W x = List.replicate (n - (nextH n H x).length) (0, 0) ++ nextH n H x ∧ (nextH n H x).length ≤ n := by
  subst hw
  unfold push nextH
  by_cases h : n < H.length + 1
  · rw [if_pos h]
    have e : n - H.length = 0 := by omega
    cases H with
    | nil => simp at hl h; omega
    | cons y H =>
      simp only [List.length_cons] at hl h e
      simp only [List.length_cons, List.cons_append, List.tail_cons, List.length_append, List.length_nil]
      rw [e]
      refine ⟨?_, by omega⟩
      simp
  · rw [if_neg h]
    simp only [List.length_append, List.length_cons, List.length_nil]
    refine ⟨?_, by omega⟩
    rw [show n - H.length = (n - (H.length + (0 + 1))) + 1 by omega, List.replicate_succ, List.cons_append, List.tail_cons, List.append_assoc]

theorem Eqv.oks {n : Nat} {k : Int} {s : St} {H : List (Int × Int)} {sh ab be : Int} (e : Eqv n k s H sh ab be) (x : Int × Int) (hx : Ok x) : ∀ y ∈ nextH n H x, Ok y := by
  intro y hy
  have : y ∈ H ++ [x] := by
    unfold nextH at hy
    split at hy
    · exact List.mem_of_mem_tail hy
    · exact hy
  rcases List.mem_append.1 this with h | h
  · exact e.ok y h
  · simp at h; subst h; exact hx

/-- one tick: the same answer, and the states again alike. -/
theorem Eqv.tick {n : Nat} {k : Int} {s : St} {H : List (Int × Int)} {sh ab be : Int} (e : Eqv n k s H sh ab be) (h l : Int) (x : Int × Int) (hx : Ok x) (hn : 1 ≤ n) (hk : 1 ≤ k) :
    rans (dirOf (shareOf (nextH n H x)) h l) ab be k = ans h l k s x ∧
    Eqv n k (stTick h l k s x) (nextH n H x) (shareOf (nextH n H x)) (rab (dirOf (shareOf (nextH n H x)) h l) ab k) (rbe (dirOf (shareOf (nextH n H x)) h l) be k) := by
  have hoks := e.oks x hx
  obtain ⟨hp, hlen⟩ := push_next n s.W H x hn e.ew e.le
  have hsh : shareOf (push s.W x) = shareOf (nextH n H x) := by rw [hp, share_zeros]
  have hd : dirF (push s.W x) h l = dirOf (shareOf (nextH n H x)) h l := by unfold dirF; rw [hsh]
  obtain ⟨d, hdd⟩ : ∃ d, dirOf (shareOf (nextH n H x)) h l = d := ⟨_, rfl⟩
  have h3 : d = 1 ∨ d = -1 ∨ d = 0 := by
    rw [← hdd]
    unfold dirOf
    split
    · exact .inl rfl
    · split
      · exact .inr (.inl rfl)
      · exact .inr (.inr rfl)
  have hab := e.eab
  have hbe := e.ebe
  have a1 := e.a1
  have a2 := e.a2
  have b1 := e.b1
  have b2 := e.b2
  have key : rans d ab be k = (turn s.R d k).2 ∧ eff (turn s.R d k).1 1 = rab d ab k ∧ eff (turn s.R d k).1 (-1) = rbe d be k ∧ 0 ≤ rab d ab k ∧ rab d ab k < k ∧ 0 ≤ rbe d be k ∧ rbe d be k < k := by
    rcases h3 with rfl | rfl | rfl
    · by_cases c : ab + 1 < k
      · obtain ⟨t1, t2⟩ := turn_on s.R 1 k (by omega) (by rw [hab]; exact c)
        rw [t1, t2, hab]
        simp [rans, rab, rbe, eff, c]; omega
      · obtain ⟨t1, t2⟩ := turn_end s.R 1 k (by omega) (by rw [hab]; omega)
        rw [t1, t2]
        simp [rans, rab, rbe, eff, c]; omega
    · by_cases c : be + 1 < k
      · obtain ⟨t1, t2⟩ := turn_on s.R (-1) k (by omega) (by rw [hbe]; exact c)
        rw [t1, t2, hbe]
        simp [rans, rab, rbe, eff, c]; omega
      · obtain ⟨t1, t2⟩ := turn_end s.R (-1) k (by omega) (by rw [hbe]; omega)
        rw [t1, t2]
        simp [rans, rab, rbe, eff, c]; omega
    · obtain ⟨t1, t2⟩ := turn_none s.R k
      rw [t1]
      simp [rans, rab, rbe, eff, t2]; omega
  rw [hdd]
  obtain ⟨k1, k2, k3, k4, k5, k6, k7⟩ := key
  refine ⟨by unfold ans; rw [hd, hdd]; exact k1, ⟨hp, hlen, ?_, ?_, ?_, k4, k5, k6, k7, hoks⟩⟩
  · show shareOf (push s.W x) = _
    rw [hsh]
  · show eff (turn s.R (dirF (push s.W x) h l) k).1 1 = _
    rw [hd, hdd]; exact k2
  · show eff (turn s.R (dirF (push s.W x) h l) k).1 (-1) = _
    rw [hd, hdd]; exact k3
end Go.Proofs.Ytpgjlkbjejlinaa

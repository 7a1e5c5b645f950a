/- Chapter 17's contracts as the laws take them: a Quality is its window of reports. -/
import Derived.Test.YtkmoakbebpibdaaFns
import Derived.Test.YtkmoakbebpibdaaRef
namespace Go.Proofs.Ytkmoakbebpibdaa
open Go.RowKit
open Plain

/-- a Quality of the program with a window W of reports, oldest first. -/
structure QA (w : World) (p r : Nat) (g o : Int) (W : List (Int × Int)) : Prop where
  ex : ∃ k R, QRep w p r g o W.length k R (s1 W) (s2 W) ∧ rot R k = W
  ok : ∀ x ∈ W, Ok x
  pos : 1 ≤ W.length
  len : W.length ≤ 32
  g0 : 0 ≤ g
  g1 : g ≤ 1000
  o0 : 0 ≤ o
  o1 : o ≤ 1000

theorem QA.only {S : List Nat} {w w' : World} {p r : Nat} {g o : Int} {W : List (Int × Int)} (h : QA w p r g o W) (ho : Only S w w') (hp : p ∉ S) (hr : r ∉ S) : QA w' p r g o W := by
  obtain ⟨k, R, h1, h2⟩ := h.ex
  exact ⟨⟨k, R, h1.only ho hp hr, h2⟩, h.ok, h.pos, h.len, h.g0, h.g1, h.o0, h.o1⟩
theorem QA.drew {w : World} {p r : Nat} {g o : Int} {W : List (Int × Int)} (h : QA w p r g o W) : QA w.drew p r g o W := h.only (Only.drew (Only.refl [] _)) (by simp) (by simp)
theorem QA.lt {w : World} {p r : Nat} {g o : Int} {W : List (Int × Int)} (h : QA w p r g o W) : p < w.heap.size ∧ r < w.heap.size := by
  obtain ⟨k, R, h1, h2⟩ := h.ex
  exact ⟨lt_of_block h1.obj, lt_of_block h1.ring⟩

/-- is a window good? -/
def gd (g o : Int) (W : List (Int × Int)) : Bool := decide (s1 W * g ≤ s2 W * o)

theorem s1_zero (n : Nat) : s1 (List.replicate n (0, 0)) = 0 := by
  induction n with
  | zero => rfl
  | succ n ih => rw [List.replicate_succ]; simp [s1, ih]
theorem s2_zero (n : Nat) : s2 (List.replicate n (0, 0)) = 0 := by
  induction n with
  | zero => rfl
  | succ n ih => rw [List.replicate_succ]; simp [s2, ih]

theorem qnew (n g o : Int) (w : World) (h1 : 1 ≤ n) (h2 : n ≤ 32) (h3 : 1 ≤ o) (h4 : o ≤ 1000) (h5 : 0 ≤ g) (h6 : g ≤ o) :
    Calls Try.prog 9 #[.int .i64 n, .int .i64 g, .int .i64 o] w fun e w' => ∃ p r, e = .returned (.tuple #[.pointer (some ⟨p, 0, none⟩), .int .i64 0]) ∧
      QA w' p r g o (List.replicate n.toNat (0, 0)) ∧ Only [] w w' ∧ w.heap.size ≤ p ∧ w.heap.size ≤ r := by
  obtain ⟨m, rfl⟩ := Int.eq_ofNat_of_zero_le (show 0 ≤ n by omega)
  refine (new_good m g o w (by omega) (by omega) h3 h4 h5 h6).mono ?_
  rintro e w' ⟨rfl, rfl⟩
  refine ⟨_, w.heap.size, rfl, ?_, ((Only.refl _ _).alloc _).alloc _, by omega, by omega⟩
  have hl : (List.replicate (m : Int).toNat ((0 : Int), (0 : Int))).length = m := by simp
  refine ⟨⟨0, List.replicate m (0, 0), ⟨by omega, ?_, ?_, ?_, ?_⟩, ?_⟩, ?_, by rw [hl]; omega, by rw [hl]; omega, h5, by omega, by omega, h4⟩
  · rw [s1_zero, s2_zero, hl]
    have := heap_alloc_new' (w.alloc (.cells (flat (List.replicate m (0, 0))) 41)) (.cells #[.int .i64 g, .int .i64 o, .slice (some ⟨w.heap.size, 0, none⟩) m m, .int .i64 0, .int .i64 0, .int .i64 0] 43)
    simpa using this
  · rw [Below.heap_alloc _ _ _ (by simp)]
    exact heap_alloc_new' _ _
  · rw [hl]; simp
  · rw [hl]; omega
  · simp [rot]
  · intro x hx
    have := List.eq_of_mem_replicate hx
    subst this
    exact ⟨by simp, by simp, by simp⟩

theorem qadd (p r : Nat) (g o s x : Int) (W : List (Int × Int)) (w : World) (h : QA w p r g o W) (hs' : s ≤ 2147483647) (hx : 0 ≤ x) (hx' : x ≤ s) :
    Calls Try.prog 13 #[.pointer (some ⟨p, 0, none⟩), .int .i64 s, .int .i64 x] w fun e w' => e = .returned (.int .i64 0) ∧ QA w' p r g o (W.tail ++ [(s, x)]) ∧ Only [p, r] w w' := by
  obtain ⟨k, R, hr, hrot⟩ := h.ex
  have hb := s_bd W h.ok
  have hlen := h.len
  have hpos := h.pos
  have hRl := hr.len
  have hk : k < R.length := by rw [hRl]; exact hr.at_
  have hokR : Ok R[k] := h.ok _ (by rw [← hrot, mem_rot]; exact List.getElem_mem hk)
  have hh : (W[0]'hpos) = R[k] := by
    have := rot_head R k hk (by rw [rot_length]; omega)
    rw [← this]; congr 1; exact hrot.symm
  obtain ⟨q1, q2, q3⟩ := hokR
  have fl := flat_get R k hk
  have c2 := cell_of hr.obj 2
  have c3 := cell_of hr.obj 3
  have c4 := cell_of hr.obj 4
  have c5 := cell_of hr.obj 5
  simp at c2 c3 c4 c5
  refine (add_walk p r W.length k g o s x (s1 W) (s2 W) R[k].1 R[k].2 w c2 c3 c4 c5 ((cell_of hr.ring _).trans fl.1) ((cell_of hr.ring _).trans fl.2) hr.ne
    (frozen_of hr.obj _) (frozen_of hr.obj _) (frozen_of hr.obj _) (frozen_of hr.ring _) (frozen_of hr.ring _) h.len hr.at_ (by omega) hs' hx hx'
    (by omega) (by omega) (by omega) (by omega) (by omega) q3 q1 (by omega)).mono ?_
  rintro e w' ⟨rfl, rfl⟩
  have hne := hr.ne
  have hl : (W.tail ++ [(s, x)]).length = W.length := by simp; omega
  refine ⟨rfl, ⟨⟨(k + 1) % W.length, R.set k (s, x), ⟨hne, ?_, ?_, ?_, ?_⟩, ?_⟩, ?_, by omega, by omega, h.g0, h.g1, h.o0, h.o1⟩, ?_⟩
  · rw [hl, s1_tail W (s, x) hpos, s2_tail W (s, x) hpos, hh, heap_drewN]
    have e1 := heap_setCell_same (o := 4) hr.obj (.int .i64 (s1 W + (s - R[k].1)))
    have e2 := heap_setCell_same (o := 5) e1 (.int .i64 (s2 W + (x - R[k].2)))
    have e3 := (heap_setCell_ne (o := k * 2) hne (.int .i64 s)).trans e2
    have e4 := (heap_setCell_ne (o := k * 2 + 1) hne (.int .i64 x)).trans e3
    have e5 := heap_setCell_same (o := 3) e4 (.int .i64 (((k : Int) + 1) % W.length))
    rw [e5]
    simp
  · rw [heap_drewN]
    have e3 := heap_setCell_same (w := (w.setCell ⟨p, 4, none⟩ (.int .i64 (s1 W + (s - R[k].1)))).setCell ⟨p, 5, none⟩ (.int .i64 (s2 W + (x - R[k].2)))) (o := k * 2)
      ((heap_setCell_ne (Ne.symm hne) _).trans ((heap_setCell_ne (Ne.symm hne) _).trans hr.ring)) (.int .i64 s)
    have e4 := heap_setCell_same (o := k * 2 + 1) e3 (.int .i64 x)
    rw [heap_setCell_ne (Ne.symm hne), e4, flat_set R k hk]
  · simp [hRl]; omega
  · rw [hl]; exact Nat.mod_lt _ (by omega)
  · rw [← hRl, rot_set R k hk, hrot]
  · intro y hy
    rw [List.mem_append] at hy
    rcases hy with hy | hy
    · exact h.ok y (List.mem_of_mem_tail hy)
    · simp at hy; subst hy; exact ⟨hx, hx', hs'⟩
  · exact ((((((Only.refl _ _).setCell (.inl (by simp)) _).setCell (.inl (by simp)) _).setCell (.inl (by simp)) _).setCell (.inl (by simp)) _).setCell (.inl (by simp)) _).drewN 4

set_option maxHeartbeats 400000 in
theorem qadd_bad (p : Addr) (s x : Int) (w : World) (h : s < 0 ∨ 2147483647 < s ∨ x < 0 ∨ s < x) :
    Calls Try.prog 13 #[.pointer (some p), .int .i64 s, .int .i64 x] w fun e w' => e = .returned (.int .i64 1700) ∧ w = w' := by
  by_cases h1 : s < 0
  · go_enter Try.func13, Try.ntmps13
    go_wp2
    go_ret
    exact ⟨rfl, rfl⟩
  by_cases h2 : 2147483647 < s
  · go_enter Try.func13, Try.ntmps13
    go_wp2
    go_ret
    exact ⟨rfl, rfl⟩
  by_cases h3 : x < 0
  · go_enter Try.func13, Try.ntmps13
    go_wp2
    go_ret
    exact ⟨rfl, rfl⟩
  have h4 : s < x := by omega
  clear h
  go_enter Try.func13, Try.ntmps13
  go_wp2
  go_ret
  exact ⟨rfl, rfl⟩

theorem qgood (p r : Nat) (g o : Int) (W : List (Int × Int)) (w : World) (h : QA w p r g o W) :
    Calls Try.prog 15 #[.pointer (some ⟨p, 0, none⟩)] w fun e w' => e = .returned (.bool (gd g o W)) ∧ w.drew = w' := by
  obtain ⟨k, R, hr, hrot⟩ := h.ex
  have hb := s_bd W h.ok
  have hlen := h.len
  have c0 := cell_of hr.obj 0
  have c1 := cell_of hr.obj 1
  have c4 := cell_of hr.obj 4
  have c5 := cell_of hr.obj 5
  simp at c0 c1 c4 c5
  exact good_walk p r W.length g o k (s1 W) (s2 W) w c0 c1 c4 c5 h.g0 h.g1 h.o0 h.o1 (by omega) (by omega) (by omega) (by omega)

set_option maxHeartbeats 1000000 in
theorem awake_any (w : World) : Calls Try.prog 12 #[] w fun e w' => e = .returned (.bool true) ∧ Only [] w w' := by
  go_enter Try.func12, Try.ntmps12
  go_wp2_with fail
  refine (qnew 2 1 2 w (by decide) (by decide) (by decide) (by decide) (by decide) (by decide)).mono ?_
  rintro e w1 ⟨p, r, rfl, hq1, O1, hp, hr⟩
  have G1 : gd 1 2 (List.replicate (2 : Int).toNat (0, 0)) = true := by decide
  go_wp2_with (first | (go_at_call 11; refine (num_any _ _).mono ?_; rintro e w' ⟨rfl, rfl⟩) | (go_at_call 15; refine (qgood p r 1 2 _ _ hq1).mono ?_; rintro e w' ⟨rfl, rfl⟩))
  refine (qadd p r 1 2 10 4 _ _ hq1.drew (by decide) (by decide) (by decide)).mono ?_
  rintro e w2 ⟨rfl, hq2, O2⟩
  clear G1
  have G2 : gd 1 2 ((List.replicate (2 : Int).toNat (0, 0)).tail ++ [(10, 4)]) = false := by decide
  go_wp2_with (first | (go_at_call 15; refine (qgood p r 1 2 _ _ hq2).mono ?_; rintro e w' ⟨rfl, rfl⟩))
  refine (qadd p r 1 2 10 9 _ _ hq2.drew (by decide) (by decide) (by decide)).mono ?_
  rintro e w3 ⟨rfl, hq3, O3⟩
  go_wp2_with fail
  refine (qadd_bad _ 5 6 _ (by decide)).mono ?_
  rintro e w' ⟨rfl, rfl⟩
  go_wp2_with fail
  refine (new_bad 0 1 2 _ (by decide)).mono ?_
  rintro e w' ⟨rfl, rfl⟩
  clear G2
  have G3 : gd 1 2 (((List.replicate (2 : Int).toNat ((0 : Int), (0 : Int))).tail ++ [((10 : Int), (4 : Int))]).tail ++ [((10 : Int), (9 : Int))]) = true := by decide
  go_wp2_with (first | (go_at_call 11; refine (num_any _ _).mono ?_; rintro e w' ⟨rfl, rfl⟩) | (go_at_call 15; refine (qgood p r 1 2 _ _ hq3).mono ?_; rintro e w' ⟨rfl, rfl⟩))
  go_ret
  exact ⟨rfl, ((O1.drew.trans' O2 (by simp; omega)).drew.trans' O3 (by simp; omega)).drew⟩

end Go.Proofs.Ytkmoakbebpibdaa

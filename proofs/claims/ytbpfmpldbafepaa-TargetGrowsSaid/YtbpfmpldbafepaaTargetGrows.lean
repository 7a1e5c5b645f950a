/- Proved here: withylaw24.TargetGrows returns true for every input and leaves its arguments as they were (the given statement Rows.TargetGrowsSaid). Conditions: none. -/
import Derived.Test.YtbpfmpldbafepaaRows
import Derived.Test.YtbpfmpldbafepaaAwake
import Derived.Test.YtbpfmpldbafepaaMask
import Derived.Test.YtbpfmpldbafepaaOpen
import Derived.Lib.Hide
import Derived.WalkKit
import Derived.SizedLaws
import Derived.ProofKit
import Derived.OpenShut
import Derived.ShutString
import Derived.ChangeOld
import Derived.Below
namespace Go.Proofs.Ytbpfmpldbafepaa.targetGrows
open Go.ChangeShapes Go.WideShapes Go.ChangeAt Go.RowKit
open Plain
open Go.ChangeMaps (open_string shut_string)
set_option linter.unusedVariables false

theorem own : ownKnob Try.prog.godebug = none := by kernel_rfl
theorem laidOut : laidOutB Try.prog = true := by kernel_rfl

theorem cfg_cell {c : Cfg} {w : World} {g : Nat} (h : w.heap[g]? = some (.cells (cells c) 23)) : w.cell? ⟨g, 1, none⟩ = some (.int .i64 c.links) ∧ w.cell? ⟨g, 2, none⟩ = some (.int .i64 c.least) ∧ w.cell? ⟨g, 3, none⟩ = some (.int .i64 c.rate) :=
  ⟨at_cfg h 1, at_cfg h 2, at_cfg h 3⟩


theorem g_mono (x y rate least links : Int) (h0 : x ≤ y) (hr : 0 < rate) : cnt x rate least links ≤ cnt y rate least links := by
  unfold cnt
  have : (x + rate - 1) / rate ≤ (y + rate - 1) / rate := Int.ediv_le_ediv hr (by omega)
  omega
theorem g_bounds (x rate least links : Int) (h : least ≤ links) : least ≤ cnt x rate least links ∧ cnt x rate least links ≤ links := by unfold cnt; omega
theorem g_zero (rate least links : Int) (hr : 0 < rate) (h1 : 1 ≤ least) (h : least ≤ links) : cnt 0 rate least links = least := by
  unfold cnt
  have : (0 + rate - 1) / rate = 0 := Int.ediv_eq_zero_of_lt (by omega) (by omega)
  rw [this]; omega
theorem g_carry (x rate least links : Int) (hr : 0 < rate) (hx : 0 ≤ x) (h : least ≤ links) (hq : cnt x rate least links ≠ links) : x ≤ cnt x rate least links * rate := by
  have h1 : (x + rate - 1) / rate ≤ cnt x rate least links := by unfold cnt at hq ⊢; omega
  have h2 : (x + rate - 1) / rate * rate ≤ cnt x rate least links * rate := Int.mul_le_mul_of_nonneg_right h1 (by omega)
  have h3 := Int.mul_ediv_add_emod (x + rate - 1) rate
  have h4 := Int.emod_lt_of_pos (x + rate - 1) hr
  rw [Int.mul_comm] at h3
  omega
theorem g_need (x rate least links : Int) (hr : 0 < rate) (hx : 0 ≤ x) (h : least ≤ links) (hq : cnt x rate least links ≠ least) : (cnt x rate least links - 1) * rate < x := by
  have h1 : cnt x rate least links ≤ (x + rate - 1) / rate := by unfold cnt at hq ⊢; omega
  have h2 : (cnt x rate least links - 1) * rate ≤ ((x + rate - 1) / rate - 1) * rate := Int.mul_le_mul_of_nonneg_right (by omega) (by omega)
  have h3 := Int.mul_ediv_add_emod (x + rate - 1) rate
  have h4 := Int.emod_nonneg (x + rate - 1) (show rate ≠ 0 by omega)
  rw [Int.mul_comm] at h3
  rw [Int.sub_mul ((x + rate - 1) / rate)] at h2
  omega

/- The walk: the law's text returns true. -/
set_option maxRecDepth 100000 in
set_option maxHeartbeats 4000000 in
theorem walk (a0 : Int) (w0 : (Lit.int .i64 a0).wf = true) (a1 : Int) (w1 : (Lit.int .i64 a1).wf = true) (a2 : Cfg) (w : World) :
    Calls Try.prog 4 #[.int .i64 a0, .int .i64 a1, .agg (cells a2)] w fun e w' => e = .returned (.bool true) ∧ Below w.heap.size w w' := by
  have M0 := and_1048575 a0
  have M1 : 0 ≤ a0 % 1048576 := by omega
  have M2 : a0 % 1048576 ≤ 1048575 := by omega
  have N0 := and_1048575 a1
  have N1 : 0 ≤ a1 % 1048576 := by omega
  have N2 : a1 % 1048576 ≤ 1048575 := by omega
  generalize a0 % 1048576 = x at *
  generalize a1 % 1048576 = y at *
  have O0 : Only [] w (w.alloc (.cells (cells a2) 23)) := (Only.refl _ _).alloc _
  have hg := heap_alloc_new' w (.cells (cells a2) 23)
  cases hm : mayB a2
  · go_enter Try.func4, Try.ntmps4
    go_upto_region 1 with fail
    generalize World.alloc _ _ = w1 at *
    generalize w.heap.size = B at *
    go_wp2_with fail
    refine (awake_any w1).mono ?_
    rintro e wa ⟨rfl, Oa⟩
    have hg2 := Oa.at hg (by simp)
    go_wp2_with (with_reducible refine wpList_load_row rfl 23 (.tmp 5) rfl _ rfl 23 (cells a2) (0, 0) _ hg2 Try.underlying23 rfl (sz23 a2) ?_)
    refine (may_any a2 wa).mono ?_
    rintro e w2 ⟨rfl, Ob⟩
    rw [hm]
    go_wp2_with fail
    go_ret
    exact ⟨rfl, ((O0.trans Oa).trans Ob).below _ (Nat.le_refl _) (by simp)⟩
  have hP := (mayB_iff a2).1 hm
  have r1 : 64 ≤ a2.rate := by unfold MayP at hP; omega
  have r2 : a2.rate ≤ 4096 := by unfold MayP at hP; omega
  have r3 : 1 ≤ a2.least := by unfold MayP at hP; omega
  have r4 : a2.least ≤ a2.links := by unfold MayP at hP; omega
  have r5 : a2.links ≤ 6 := by unfold MayP at hP; omega
  clear hP
  rcases (show x < y ∨ y < x ∨ x = y by omega) with hxy | hxy | hxy
  · have p1 := (g_bounds x a2.rate a2.least a2.links r4).1
    have p2 := (g_bounds x a2.rate a2.least a2.links r4).2
    have q1 := (g_bounds y a2.rate a2.least a2.links r4).1
    have q2 := (g_bounds y a2.rate a2.least a2.links r4).2
    have q3 := g_mono x y a2.rate a2.least a2.links (by omega) (by omega)
    have z1 := Lib.hid (g_zero a2.rate a2.least a2.links (by omega) r3 r4)
    have HC := Lib.hid (g_carry y a2.rate a2.least a2.links (by omega) (by omega) r4)
    have HN := Lib.hid (g_need y a2.rate a2.least a2.links (by omega) (by omega) r4)
    have m1 : ¬ (y < x) := by omega
    go_enter Try.func4, Try.ntmps4
    go_upto_region 1 with fail
    generalize World.alloc _ _ = w1 at *
    generalize w.heap.size = B at *
    go_wp2_with fail
    refine (awake_any w1).mono ?_
    rintro e wa ⟨rfl, Oa⟩
    have hg2 := Oa.at hg (by simp)
    have Ob := O0.trans Oa
    clear O0 Oa hg
    go_wp2_with (with_reducible refine wpList_load_row rfl 23 (.tmp 5) rfl _ rfl 23 (cells a2) (0, 0) _ hg2 Try.underlying23 rfl (sz23 a2) ?_)
    refine (may_any a2 wa).mono ?_
    rintro e w2 ⟨rfl, Oc⟩
    rw [hm]
    have hg3 := Oc.at hg2 (by simp)
    have Od := Ob.trans Oc
    clear Ob Oc hg2
    go_wp2_with (with_reducible refine wpList_load_row rfl 23 (.tmp 5) rfl _ rfl 23 (cells a2) (0, 0) _ hg3 Try.underlying23 rfl (sz23 a2) ?_)
    refine (links_ok x a2 w2 hm (by omega) (by omega)).mono ?_
    rintro e w3 ⟨rfl, Oe⟩
    have hg4 := Oe.at hg3 (by simp)
    have Of := Od.trans Oe
    clear Od Oe hg3
    go_wp2_with (with_reducible refine wpList_load_row rfl 23 (.tmp 5) rfl _ rfl 23 (cells a2) (0, 0) _ hg4 Try.underlying23 rfl (sz23 a2) ?_)
    refine (links_ok y a2 w3 hm (by omega) (by omega)).mono ?_
    rintro e w4 ⟨rfl, Og⟩
    have hg5 := Og.at hg4 (by simp)
    have Oh := Of.trans Og
    clear Of Og hg4
    go_wp2_with (with_reducible refine wpList_load_row rfl 23 (.tmp 5) rfl _ rfl 23 (cells a2) (0, 0) _ hg5 Try.underlying23 rfl (sz23 a2) ?_)
    refine (links_ok 0 a2 w4 hm (by omega) (by omega)).mono ?_
    rintro e w5 ⟨rfl, Oi⟩
    rw [z1.out]
    have hg6 := Oi.at hg5 (by simp)
    have Oj := Oh.trans Oi
    obtain ⟨k1, k2, k3⟩ := cfg_cell hg6
    clear Oh Oi hg5 hg6 z1
    generalize cnt x a2.rate a2.least a2.links = p at *
    generalize cnt y a2.rate a2.least a2.links = q at *
    generalize a2.rate = r at *
    generalize a2.least = l at *
    generalize a2.links = n at *
    have b0 : 0 ≤ q * r := Int.mul_nonneg (by omega) (by omega)
    have b1 : q * r ≤ 6 * r := Int.mul_le_mul_of_nonneg_right (by omega) (by omega)
    have b2 : 0 ≤ (q - 1) * r := Int.mul_nonneg (by omega) (by omega)
    have b3 : (q - 1) * r ≤ 6 * r := Int.mul_le_mul_of_nonneg_right (by omega) (by omega)
    have t1 : decide (p ≤ q) = true := decide_eq_true q3
    have t2 : decide (l ≤ p) = true := by simpa using p1
    have t3 : decide (q ≤ n) = true := by simpa using q2
    have t4 : (l == l) = true := by simp
    by_cases c1 : y ≤ q * r
    · have s1 : decide (y ≤ q * r) = true := by simpa using c1
      by_cases c2 : q = l
      · have s2 : (q == l) = true := by simpa using c2
        clear HC HN c2
        go_wp2_with (go_at_call 9; refine (num_any _ _).mono ?_; rintro e w' ⟨rfl, rfl⟩)
        go_ret
        exact ⟨rfl, Oj.below _ (Nat.le_refl _) (by simp)⟩
      · have s2 : (q == l) = false := by simpa using c2
        have s3 : decide ((q - 1) * r < y) = true := by simpa using HN.out c2
        clear HC HN c2
        go_wp2_with (go_at_call 9; refine (num_any _ _).mono ?_; rintro e w' ⟨rfl, rfl⟩)
        go_ret
        exact ⟨rfl, Oj.below _ (Nat.le_refl _) (by simp)⟩
    · have s1 : decide (y ≤ q * r) = false := by simpa using c1
      have s4 : (q == n) = true := by
        rw [beq_iff_eq]
        rcases Decidable.em (q = n) with h | h
        · exact h
        · exact absurd (HC.out h) c1
      by_cases c2 : q = l
      · have s2 : (q == l) = true := by simpa using c2
        clear HC HN c2
        go_wp2_with (go_at_call 9; refine (num_any _ _).mono ?_; rintro e w' ⟨rfl, rfl⟩)
        go_ret
        exact ⟨rfl, Oj.below _ (Nat.le_refl _) (by simp)⟩
      · have s2 : (q == l) = false := by simpa using c2
        have s3 : decide ((q - 1) * r < y) = true := by simpa using HN.out c2
        clear HC HN c2
        go_wp2_with (go_at_call 9; refine (num_any _ _).mono ?_; rintro e w' ⟨rfl, rfl⟩)
        go_ret
        exact ⟨rfl, Oj.below _ (Nat.le_refl _) (by simp)⟩
  · have p1 := (g_bounds y a2.rate a2.least a2.links r4).1
    have p2 := (g_bounds y a2.rate a2.least a2.links r4).2
    have q1 := (g_bounds x a2.rate a2.least a2.links r4).1
    have q2 := (g_bounds x a2.rate a2.least a2.links r4).2
    have q3 := g_mono y x a2.rate a2.least a2.links (by omega) (by omega)
    have z1 := Lib.hid (g_zero a2.rate a2.least a2.links (by omega) r3 r4)
    have HC := Lib.hid (g_carry x a2.rate a2.least a2.links (by omega) (by omega) r4)
    have HN := Lib.hid (g_need x a2.rate a2.least a2.links (by omega) (by omega) r4)
    have m1 : ¬ (x < y) := by omega
    go_enter Try.func4, Try.ntmps4
    go_upto_region 1 with fail
    generalize World.alloc _ _ = w1 at *
    generalize w.heap.size = B at *
    go_wp2_with fail
    refine (awake_any w1).mono ?_
    rintro e wa ⟨rfl, Oa⟩
    have hg2 := Oa.at hg (by simp)
    have Ob := O0.trans Oa
    clear O0 Oa hg
    go_wp2_with (with_reducible refine wpList_load_row rfl 23 (.tmp 5) rfl _ rfl 23 (cells a2) (0, 0) _ hg2 Try.underlying23 rfl (sz23 a2) ?_)
    refine (may_any a2 wa).mono ?_
    rintro e w2 ⟨rfl, Oc⟩
    rw [hm]
    have hg3 := Oc.at hg2 (by simp)
    have Od := Ob.trans Oc
    clear Ob Oc hg2
    go_wp2_with (with_reducible refine wpList_load_row rfl 23 (.tmp 5) rfl _ rfl 23 (cells a2) (0, 0) _ hg3 Try.underlying23 rfl (sz23 a2) ?_)
    refine (links_ok y a2 w2 hm (by omega) (by omega)).mono ?_
    rintro e w3 ⟨rfl, Oe⟩
    have hg4 := Oe.at hg3 (by simp)
    have Of := Od.trans Oe
    clear Od Oe hg3
    go_wp2_with (with_reducible refine wpList_load_row rfl 23 (.tmp 5) rfl _ rfl 23 (cells a2) (0, 0) _ hg4 Try.underlying23 rfl (sz23 a2) ?_)
    refine (links_ok x a2 w3 hm (by omega) (by omega)).mono ?_
    rintro e w4 ⟨rfl, Og⟩
    have hg5 := Og.at hg4 (by simp)
    have Oh := Of.trans Og
    clear Of Og hg4
    go_wp2_with (with_reducible refine wpList_load_row rfl 23 (.tmp 5) rfl _ rfl 23 (cells a2) (0, 0) _ hg5 Try.underlying23 rfl (sz23 a2) ?_)
    refine (links_ok 0 a2 w4 hm (by omega) (by omega)).mono ?_
    rintro e w5 ⟨rfl, Oi⟩
    rw [z1.out]
    have hg6 := Oi.at hg5 (by simp)
    have Oj := Oh.trans Oi
    obtain ⟨k1, k2, k3⟩ := cfg_cell hg6
    clear Oh Oi hg5 hg6 z1
    generalize cnt y a2.rate a2.least a2.links = p at *
    generalize cnt x a2.rate a2.least a2.links = q at *
    generalize a2.rate = r at *
    generalize a2.least = l at *
    generalize a2.links = n at *
    have b0 : 0 ≤ q * r := Int.mul_nonneg (by omega) (by omega)
    have b1 : q * r ≤ 6 * r := Int.mul_le_mul_of_nonneg_right (by omega) (by omega)
    have b2 : 0 ≤ (q - 1) * r := Int.mul_nonneg (by omega) (by omega)
    have b3 : (q - 1) * r ≤ 6 * r := Int.mul_le_mul_of_nonneg_right (by omega) (by omega)
    have t1 : decide (p ≤ q) = true := decide_eq_true q3
    have t2 : decide (l ≤ p) = true := by simpa using p1
    have t3 : decide (q ≤ n) = true := by simpa using q2
    have t4 : (l == l) = true := by simp
    by_cases c1 : x ≤ q * r
    · have s1 : decide (x ≤ q * r) = true := by simpa using c1
      by_cases c2 : q = l
      · have s2 : (q == l) = true := by simpa using c2
        clear HC HN c2
        go_wp2_with (go_at_call 9; refine (num_any _ _).mono ?_; rintro e w' ⟨rfl, rfl⟩)
        go_ret
        exact ⟨rfl, Oj.below _ (Nat.le_refl _) (by simp)⟩
      · have s2 : (q == l) = false := by simpa using c2
        have s3 : decide ((q - 1) * r < x) = true := by simpa using HN.out c2
        clear HC HN c2
        go_wp2_with (go_at_call 9; refine (num_any _ _).mono ?_; rintro e w' ⟨rfl, rfl⟩)
        go_ret
        exact ⟨rfl, Oj.below _ (Nat.le_refl _) (by simp)⟩
    · have s1 : decide (x ≤ q * r) = false := by simpa using c1
      have s4 : (q == n) = true := by
        rw [beq_iff_eq]
        rcases Decidable.em (q = n) with h | h
        · exact h
        · exact absurd (HC.out h) c1
      by_cases c2 : q = l
      · have s2 : (q == l) = true := by simpa using c2
        clear HC HN c2
        go_wp2_with (go_at_call 9; refine (num_any _ _).mono ?_; rintro e w' ⟨rfl, rfl⟩)
        go_ret
        exact ⟨rfl, Oj.below _ (Nat.le_refl _) (by simp)⟩
      · have s2 : (q == l) = false := by simpa using c2
        have s3 : decide ((q - 1) * r < x) = true := by simpa using HN.out c2
        clear HC HN c2
        go_wp2_with (go_at_call 9; refine (num_any _ _).mono ?_; rintro e w' ⟨rfl, rfl⟩)
        go_ret
        exact ⟨rfl, Oj.below _ (Nat.le_refl _) (by simp)⟩
  · subst hxy
    have p1 := (g_bounds x a2.rate a2.least a2.links r4).1
    have p2 := (g_bounds x a2.rate a2.least a2.links r4).2
    have q1 := (g_bounds x a2.rate a2.least a2.links r4).1
    have q2 := (g_bounds x a2.rate a2.least a2.links r4).2
    have q3 := g_mono x x a2.rate a2.least a2.links (by omega) (by omega)
    have z1 := Lib.hid (g_zero a2.rate a2.least a2.links (by omega) r3 r4)
    have HC := Lib.hid (g_carry x a2.rate a2.least a2.links (by omega) (by omega) r4)
    have HN := Lib.hid (g_need x a2.rate a2.least a2.links (by omega) (by omega) r4)
    have m1 : ¬ (x < x) := by omega
    go_enter Try.func4, Try.ntmps4
    go_upto_region 1 with fail
    generalize World.alloc _ _ = w1 at *
    generalize w.heap.size = B at *
    go_wp2_with fail
    refine (awake_any w1).mono ?_
    rintro e wa ⟨rfl, Oa⟩
    have hg2 := Oa.at hg (by simp)
    have Ob := O0.trans Oa
    clear O0 Oa hg
    go_wp2_with (with_reducible refine wpList_load_row rfl 23 (.tmp 5) rfl _ rfl 23 (cells a2) (0, 0) _ hg2 Try.underlying23 rfl (sz23 a2) ?_)
    refine (may_any a2 wa).mono ?_
    rintro e w2 ⟨rfl, Oc⟩
    rw [hm]
    have hg3 := Oc.at hg2 (by simp)
    have Od := Ob.trans Oc
    clear Ob Oc hg2
    go_wp2_with (with_reducible refine wpList_load_row rfl 23 (.tmp 5) rfl _ rfl 23 (cells a2) (0, 0) _ hg3 Try.underlying23 rfl (sz23 a2) ?_)
    refine (links_ok x a2 w2 hm (by omega) (by omega)).mono ?_
    rintro e w3 ⟨rfl, Oe⟩
    have hg4 := Oe.at hg3 (by simp)
    have Of := Od.trans Oe
    clear Od Oe hg3
    go_wp2_with (with_reducible refine wpList_load_row rfl 23 (.tmp 5) rfl _ rfl 23 (cells a2) (0, 0) _ hg4 Try.underlying23 rfl (sz23 a2) ?_)
    refine (links_ok x a2 w3 hm (by omega) (by omega)).mono ?_
    rintro e w4 ⟨rfl, Og⟩
    have hg5 := Og.at hg4 (by simp)
    have Oh := Of.trans Og
    clear Of Og hg4
    go_wp2_with (with_reducible refine wpList_load_row rfl 23 (.tmp 5) rfl _ rfl 23 (cells a2) (0, 0) _ hg5 Try.underlying23 rfl (sz23 a2) ?_)
    refine (links_ok 0 a2 w4 hm (by omega) (by omega)).mono ?_
    rintro e w5 ⟨rfl, Oi⟩
    rw [z1.out]
    have hg6 := Oi.at hg5 (by simp)
    have Oj := Oh.trans Oi
    obtain ⟨k1, k2, k3⟩ := cfg_cell hg6
    clear Oh Oi hg5 hg6 z1
    generalize cnt x a2.rate a2.least a2.links = p at *
    generalize a2.rate = r at *
    generalize a2.least = l at *
    generalize a2.links = n at *
    have b0 : 0 ≤ p * r := Int.mul_nonneg (by omega) (by omega)
    have b1 : p * r ≤ 6 * r := Int.mul_le_mul_of_nonneg_right (by omega) (by omega)
    have b2 : 0 ≤ (p - 1) * r := Int.mul_nonneg (by omega) (by omega)
    have b3 : (p - 1) * r ≤ 6 * r := Int.mul_le_mul_of_nonneg_right (by omega) (by omega)
    have t1 : decide (p ≤ p) = true := decide_eq_true q3
    have t2 : decide (l ≤ p) = true := by simpa using p1
    have t3 : decide (p ≤ n) = true := by simpa using q2
    have t4 : (l == l) = true := by simp
    by_cases c1 : x ≤ p * r
    · have s1 : decide (x ≤ p * r) = true := by simpa using c1
      by_cases c2 : p = l
      · have s2 : (p == l) = true := by simpa using c2
        clear HC HN c2
        go_wp2_with (go_at_call 9; refine (num_any _ _).mono ?_; rintro e w' ⟨rfl, rfl⟩)
        go_ret
        exact ⟨rfl, Oj.below _ (Nat.le_refl _) (by simp)⟩
      · have s2 : (p == l) = false := by simpa using c2
        have s3 : decide ((p - 1) * r < x) = true := by simpa using HN.out c2
        clear HC HN c2
        go_wp2_with (go_at_call 9; refine (num_any _ _).mono ?_; rintro e w' ⟨rfl, rfl⟩)
        go_ret
        exact ⟨rfl, Oj.below _ (Nat.le_refl _) (by simp)⟩
    · have s1 : decide (x ≤ p * r) = false := by simpa using c1
      have s4 : (p == n) = true := by
        rw [beq_iff_eq]
        rcases Decidable.em (p = n) with h | h
        · exact h
        · exact absurd (HC.out h) c1
      by_cases c2 : p = l
      · have s2 : (p == l) = true := by simpa using c2
        clear HC HN c2
        go_wp2_with (go_at_call 9; refine (num_any _ _).mono ?_; rintro e w' ⟨rfl, rfl⟩)
        go_ret
        exact ⟨rfl, Oj.below _ (Nat.le_refl _) (by simp)⟩
      · have s2 : (p == l) = false := by simpa using c2
        have s3 : decide ((p - 1) * r < x) = true := by simpa using HN.out c2
        clear HC HN c2
        go_wp2_with (go_at_call 9; refine (num_any _ _).mono ?_; rintro e w' ⟨rfl, rfl⟩)
        go_ret
        exact ⟨rfl, Oj.below _ (Nat.le_refl _) (by simp)⟩

/- The row's step. -/
set_option maxRecDepth 100000 in
theorem lifted (os : Os) (started : os.Started) (H : Type) (enc : TypeId × Value → H) :
    ReturnsInHanded {} Try.checked os 4 .any (Rows.targetGrowsSpec.pre6 enc Try.prog Try.f4 Rows.targetGrowsRow.domain false) (Rows.targetGrowsSpec.post enc Try.prog Try.f4 false true false false) := by
  refine returnsInHanded_of_change_sized (C := Try.checked) own started (by kernel_rfl) Try.func4
    (ChangeSpec.witness6 (enc := enc) (C := Try.checked) false ⟨#[], #[.int .i64 0, .int .i64 0, .agg #[.int .i64 0, .int .i64 0, .int .i64 0, .int .i64 0, .int .i64 0, .int .i64 0, .int .i64 0, .int .i64 0, .int .i64 0, .int .i64 0, .int .i64 0, .int .i64 0, .bool false, .string ByteArray.empty, .string ByteArray.empty, .string ByteArray.empty, .int .i64 0, .int .i64 0]], []⟩ 8 (by kernel_rfl) (by kernel_rfl) (by kernel_rfl) (by kernel_rfl)) ?_
  intro W base args ds gs before hval0 hW hcnd hsz _
  have hval : ∀ (j : Nat) t v, Try.f4.params[j]? = some t → args[j]? = some v → Value.okWide Try.prog W .any base t v := hval0
  have hW' := hW
  obtain ⟨p, q, hA0, hV, rfl, hfz, hnd⟩ := hW
  have hA : DataW.TrodAll enc Try.prog W 0 (fun _ => true) true Try.f4.params.toList args.toList ds p := hA0
  rw [Try.params4] at hA hval
  obtain ⟨v0, vs0, d0, ds0, p0, q0, hargs, rfl, rfl, h0, r0⟩ := trodAll_cons hA
  obtain ⟨v1, vs1, d1, ds1, p1, q1, rfl, rfl, rfl, h1, r1⟩ := trodAll_cons r0
  obtain ⟨v2, vs2, d2, ds2, p2, q2, rfl, rfl, rfl, h2, r2⟩ := trodAll_cons r1
  obtain ⟨rfl, rfl, rfl⟩ := trodAll_nil r2
  obtain rfl : args = #[v0, v1, v2] := by cases args; simp_all
  obtain ⟨rfl, rfl⟩ := trodVars_none hV
  obtain ⟨a0, rfl, rfl, rfl, w0⟩ := open_int Try.underlying3 (hval 0 3 v0 rfl rfl) h0
  obtain ⟨a1, rfl, rfl, rfl, w1⟩ := open_int Try.underlying3 (hval 1 3 v1 rfl rfl) h1
  have k2 := h2
  have lt2 : ∀ x ∈ p2, x.block < W.heap.size := by obtain ⟨m, hm⟩ := k2; exact DataW.trod_lt m _ _ _ hm
  obtain ⟨a2, rfl⟩ := open_cfg (hval 2 23 v2 rfl rfl) h2
  clear hA0 hval0
  refine (walk a0 w0 a1 w1 a2 W).mono fun e W' ⟨he, bel⟩ => ?_
  subst he
  exact ⟨_, rfl, _, _, _, [], _, [], hW', trodAll_mk1 (shut_bool Try.underlying4 _), (trodAll_cons_mk (shut_int Try.underlying3 w0) (trodAll_cons_mk (shut_int Try.underlying3 w1) (trodAll_cons_mk (Below.trod laidOut (by kernel_rfl) (of_decide_eq_true (by kernel_rfl)) k2 bel lt2) trodAll_mk0))), rfl, bel.frame _, fun h => by cases h⟩

theorem over : Rows.targetGrowsRow.holds Try.pinned (OpenSpec.ofChange Rows.targetGrowsSpec) :=
  OpenClaim.holds_of_wide 4 Try.f4 rfl rfl rfl rfl rfl rfl rfl ⟨rfl, rfl, rfl, rfl, rfl⟩ rfl rfl rfl rfl rfl (by kernel_rfl) Try.func4 (by kernel_rfl)
    (of_decide_eq_true (by kernel_rfl)) (by unfold Func.isWrapper; first | (rw [if_pos (by decide +kernel)]; kernel_rfl) | (rw [if_neg (by decide +kernel)]; exact ⟨rfl, rfl⟩))
    (fun os started H enc _ => lifted os started H enc)

/-- The statement. -/
theorem proved : Rows.TargetGrowsSaid := over
#print axioms proved
end Go.Proofs.Ytbpfmpldbafepaa.targetGrows

/- Proved here: withylaw17.QualityForms returns true for every input and leaves its arguments as they were (the given statement Rows.QualityFormsSaid). Conditions: none. -/
import Derived.Test.YtkmoakbebpibdaaRows
import Derived.Test.YtkmoakbebpibdaaCon
import Derived.Test.YtkmoakbebpibdaaMask
import Derived.WalkKit
import Derived.ProofKit
import Derived.OpenShut
import Derived.ShutString
namespace Go.Proofs.Ytkmoakbebpibdaa.qualityForms
open Go.ChangeShapes Go.WideShapes Go.ChangeAt Go.RowKit
open Plain
open Go.ChangeMaps (open_string shut_string)
set_option linter.unusedVariables false      -- a walk need not use every 'w<i>' (that an integer argument fits its kind)

theorem own : ownKnob Try.prog.godebug = none := by kernel_rfl

/- The walk: the law's text returns true. -/
set_option maxRecDepth 100000 in
set_option maxHeartbeats 2000000 in
theorem walk (a0 : Int) (a1 : Int) (a2 : Int) (a3 : Int) (a4 : Int) (w0 : (Lit.int .i64 a0).wf = true) (w1 : (Lit.int .i64 a1).wf = true) (w2 : (Lit.int .i64 a2).wf = true) (w3 : (Lit.int .i64 a3).wf = true) (w4 : (Lit.int .i64 a4).wf = true) (w : World) :
    Calls Try.prog 6 #[.int .i64 a0, .int .i64 a1, .int .i64 a2, .int .i64 a3, .int .i64 a4] w fun e w' => e = .returned (.bool true) ∧ Below w.heap.size w w' := by
  by_cases h1 : 1 ≤ a0
  rotate_left
  · have n1 : a0 < 1 := by omega
    have k : Hid (a0 < 1 ∨ 32 < a0 ∨ a2 < 1 ∨ 1000 < a2 ∨ a1 < 0 ∨ a2 < a1) := by show _ ∨ _; omega
    have d1 : decide (1 ≤ a0) = false := by simp; omega
    clear h1 n1
    go_enter Try.func6, Try.ntmps6
    go_wp2_with fail
    refine (awake_any w).mono ?_
    rintro e wa ⟨rfl, O0⟩
    go_wp2_with (first | (go_at_call 9; refine (new_bad _ _ _ _ k.out).mono ?_; rintro e w' ⟨rfl, rfl⟩) | (go_at_call 11; refine (num_any _ _).mono ?_; rintro e w' ⟨rfl, rfl⟩))
    go_ret
    exact ⟨rfl, O0.below _ (Nat.le_refl _) (by simp)⟩
  by_cases h2 : a0 ≤ 32
  rotate_left
  · have n2 : 32 < a0 := by omega
    have k : Hid (a0 < 1 ∨ 32 < a0 ∨ a2 < 1 ∨ 1000 < a2 ∨ a1 < 0 ∨ a2 < a1) := by show _ ∨ _; omega
    have d1 : decide (1 ≤ a0) = true := by simp; omega
    have d2 : decide (a0 ≤ 32) = false := by simp; omega
    clear h2 n2
    go_enter Try.func6, Try.ntmps6
    go_wp2_with fail
    refine (awake_any w).mono ?_
    rintro e wa ⟨rfl, O0⟩
    go_wp2_with (first | (go_at_call 9; refine (new_bad _ _ _ _ k.out).mono ?_; rintro e w' ⟨rfl, rfl⟩) | (go_at_call 11; refine (num_any _ _).mono ?_; rintro e w' ⟨rfl, rfl⟩))
    go_ret
    exact ⟨rfl, O0.below _ (Nat.le_refl _) (by simp)⟩
  by_cases h3 : 1 ≤ a2
  rotate_left
  · have n3 : a2 < 1 := by omega
    have k : Hid (a0 < 1 ∨ 32 < a0 ∨ a2 < 1 ∨ 1000 < a2 ∨ a1 < 0 ∨ a2 < a1) := by show _ ∨ _; omega
    have d1 : decide (1 ≤ a0) = true := by simp; omega
    have d2 : decide (a0 ≤ 32) = true := by simp; omega
    have d3 : decide (1 ≤ a2) = false := by simp; omega
    clear h3 n3
    go_enter Try.func6, Try.ntmps6
    go_wp2_with fail
    refine (awake_any w).mono ?_
    rintro e wa ⟨rfl, O0⟩
    go_wp2_with (first | (go_at_call 9; refine (new_bad _ _ _ _ k.out).mono ?_; rintro e w' ⟨rfl, rfl⟩) | (go_at_call 11; refine (num_any _ _).mono ?_; rintro e w' ⟨rfl, rfl⟩))
    go_ret
    exact ⟨rfl, O0.below _ (Nat.le_refl _) (by simp)⟩
  by_cases h4 : a2 ≤ 1000
  rotate_left
  · have n4 : 1000 < a2 := by omega
    have k : Hid (a0 < 1 ∨ 32 < a0 ∨ a2 < 1 ∨ 1000 < a2 ∨ a1 < 0 ∨ a2 < a1) := by show _ ∨ _; omega
    have d1 : decide (1 ≤ a0) = true := by simp; omega
    have d2 : decide (a0 ≤ 32) = true := by simp; omega
    have d3 : decide (1 ≤ a2) = true := by simp; omega
    have d4 : decide (a2 ≤ 1000) = false := by simp; omega
    clear h4 n4
    go_enter Try.func6, Try.ntmps6
    go_wp2_with fail
    refine (awake_any w).mono ?_
    rintro e wa ⟨rfl, O0⟩
    go_wp2_with (first | (go_at_call 9; refine (new_bad _ _ _ _ k.out).mono ?_; rintro e w' ⟨rfl, rfl⟩) | (go_at_call 11; refine (num_any _ _).mono ?_; rintro e w' ⟨rfl, rfl⟩))
    go_ret
    exact ⟨rfl, O0.below _ (Nat.le_refl _) (by simp)⟩
  by_cases h5 : 0 ≤ a1
  rotate_left
  · have n5 : a1 < 0 := by omega
    have k : Hid (a0 < 1 ∨ 32 < a0 ∨ a2 < 1 ∨ 1000 < a2 ∨ a1 < 0 ∨ a2 < a1) := by show _ ∨ _; omega
    have d1 : decide (1 ≤ a0) = true := by simp; omega
    have d2 : decide (a0 ≤ 32) = true := by simp; omega
    have d3 : decide (1 ≤ a2) = true := by simp; omega
    have d4 : decide (a2 ≤ 1000) = true := by simp; omega
    have d5 : decide (0 ≤ a1) = false := by simp; omega
    clear h5 n5
    go_enter Try.func6, Try.ntmps6
    go_wp2_with fail
    refine (awake_any w).mono ?_
    rintro e wa ⟨rfl, O0⟩
    go_wp2_with (first | (go_at_call 9; refine (new_bad _ _ _ _ k.out).mono ?_; rintro e w' ⟨rfl, rfl⟩) | (go_at_call 11; refine (num_any _ _).mono ?_; rintro e w' ⟨rfl, rfl⟩))
    go_ret
    exact ⟨rfl, O0.below _ (Nat.le_refl _) (by simp)⟩
  by_cases h6 : a1 ≤ a2
  rotate_left
  · have n6 : a2 < a1 := by omega
    have k : Hid (a0 < 1 ∨ 32 < a0 ∨ a2 < 1 ∨ 1000 < a2 ∨ a1 < 0 ∨ a2 < a1) := by show _ ∨ _; omega
    have d1 : decide (1 ≤ a0) = true := by simp; omega
    have d2 : decide (a0 ≤ 32) = true := by simp; omega
    have d3 : decide (1 ≤ a2) = true := by simp; omega
    have d4 : decide (a2 ≤ 1000) = true := by simp; omega
    have d5 : decide (0 ≤ a1) = true := by simp; omega
    have d6 : decide (a1 ≤ a2) = false := by simp; omega
    clear h6 n6
    go_enter Try.func6, Try.ntmps6
    go_wp2_with fail
    refine (awake_any w).mono ?_
    rintro e wa ⟨rfl, O0⟩
    go_wp2_with (first | (go_at_call 9; refine (new_bad _ _ _ _ k.out).mono ?_; rintro e w' ⟨rfl, rfl⟩) | (go_at_call 11; refine (num_any _ _).mono ?_; rintro e w' ⟨rfl, rfl⟩))
    go_ret
    exact ⟨rfl, O0.below _ (Nat.le_refl _) (by simp)⟩
  have d1 : decide (1 ≤ a0) = true := by simp; omega
  have d2 : decide (a0 ≤ 32) = true := by simp; omega
  have d3 : decide (1 ≤ a2) = true := by simp; omega
  have d4 : decide (a2 ≤ 1000) = true := by simp; omega
  have d5 : decide (0 ≤ a1) = true := by simp; omega
  have d6 : decide (a1 ≤ a2) = true := by simp; omega
  go_enter Try.func6, Try.ntmps6
  go_wp2_with fail
  refine (awake_any w).mono ?_
  rintro e wa ⟨rfl, O0⟩
  go_wp2_with fail
  refine (qnew a0 a1 a2 wa h1 h2 h3 h4 h5 h6).mono ?_
  rintro e wb ⟨p, r, rfl, hq, O1, hp, hr⟩
  have O2 : Only [] w wb := O0.trans O1
  have s0 := O0.size
  clear O0 O1
  by_cases m1 : 0 ≤ a3
  rotate_left
  · have k : Hid (a3 < 0 ∨ 2147483647 < a3 ∨ a4 < 0 ∨ a3 < a4) := by show _ ∨ _; omega
    have e1 : decide (0 ≤ a3) = false := by simp; omega
    clear m1
    have G : gd a1 a2 (List.replicate a0.toNat (0, 0)) = true := by unfold gd; rw [s1_zero, s2_zero]; simp
    go_wp2_with (first | (go_at_call 13; refine (qadd_bad _ _ _ _ k.out).mono ?_; rintro e w' ⟨rfl, rfl⟩) | (go_at_call 15; refine (qgood p r a1 a2 _ _ hq).mono ?_; rintro e w' ⟨rfl, rfl⟩) | (go_at_call 11; refine (num_any _ _).mono ?_; rintro e w' ⟨rfl, rfl⟩))
    go_ret
    exact ⟨rfl, O2.drew.below _ (Nat.le_refl _) (by simp)⟩
  by_cases m2 : a3 ≤ 2147483647
  rotate_left
  · have k : Hid (a3 < 0 ∨ 2147483647 < a3 ∨ a4 < 0 ∨ a3 < a4) := by show _ ∨ _; omega
    have e1 : decide (0 ≤ a3) = true := by simp; omega
    have e2 : decide (a3 ≤ 2147483647) = false := by simp; omega
    clear m2
    have G : gd a1 a2 (List.replicate a0.toNat (0, 0)) = true := by unfold gd; rw [s1_zero, s2_zero]; simp
    go_wp2_with (first | (go_at_call 13; refine (qadd_bad _ _ _ _ k.out).mono ?_; rintro e w' ⟨rfl, rfl⟩) | (go_at_call 15; refine (qgood p r a1 a2 _ _ hq).mono ?_; rintro e w' ⟨rfl, rfl⟩) | (go_at_call 11; refine (num_any _ _).mono ?_; rintro e w' ⟨rfl, rfl⟩))
    go_ret
    exact ⟨rfl, O2.drew.below _ (Nat.le_refl _) (by simp)⟩
  by_cases m3 : 0 ≤ a4
  rotate_left
  · have k : Hid (a3 < 0 ∨ 2147483647 < a3 ∨ a4 < 0 ∨ a3 < a4) := by show _ ∨ _; omega
    have e1 : decide (0 ≤ a3) = true := by simp; omega
    have e2 : decide (a3 ≤ 2147483647) = true := by simp; omega
    have e3 : decide (0 ≤ a4) = false := by simp; omega
    clear m3
    have G : gd a1 a2 (List.replicate a0.toNat (0, 0)) = true := by unfold gd; rw [s1_zero, s2_zero]; simp
    go_wp2_with (first | (go_at_call 13; refine (qadd_bad _ _ _ _ k.out).mono ?_; rintro e w' ⟨rfl, rfl⟩) | (go_at_call 15; refine (qgood p r a1 a2 _ _ hq).mono ?_; rintro e w' ⟨rfl, rfl⟩) | (go_at_call 11; refine (num_any _ _).mono ?_; rintro e w' ⟨rfl, rfl⟩))
    go_ret
    exact ⟨rfl, O2.drew.below _ (Nat.le_refl _) (by simp)⟩
  by_cases m4 : a4 ≤ a3
  rotate_left
  · have k : Hid (a3 < 0 ∨ 2147483647 < a3 ∨ a4 < 0 ∨ a3 < a4) := by show _ ∨ _; omega
    have e1 : decide (0 ≤ a3) = true := by simp; omega
    have e2 : decide (a3 ≤ 2147483647) = true := by simp; omega
    have e3 : decide (0 ≤ a4) = true := by simp; omega
    have e4 : decide (a4 ≤ a3) = false := by simp; omega
    clear m4
    have G : gd a1 a2 (List.replicate a0.toNat (0, 0)) = true := by unfold gd; rw [s1_zero, s2_zero]; simp
    go_wp2_with (first | (go_at_call 13; refine (qadd_bad _ _ _ _ k.out).mono ?_; rintro e w' ⟨rfl, rfl⟩) | (go_at_call 15; refine (qgood p r a1 a2 _ _ hq).mono ?_; rintro e w' ⟨rfl, rfl⟩) | (go_at_call 11; refine (num_any _ _).mono ?_; rintro e w' ⟨rfl, rfl⟩))
    go_ret
    exact ⟨rfl, O2.drew.below _ (Nat.le_refl _) (by simp)⟩
  have e1 : decide (0 ≤ a3) = true := by simp; omega
  have e2 : decide (a3 ≤ 2147483647) = true := by simp; omega
  have e3 : decide (0 ≤ a4) = true := by simp; omega
  have e4 : decide (a4 ≤ a3) = true := by simp; omega
  go_wp2_with (first | (go_at_call 13; refine (qadd p r a1 a2 a3 a4 _ _ hq m2 m3 m4).mono ?_; rintro e w3 ⟨rfl, hq3, O3⟩) | (go_at_call 11; refine (num_any _ _).mono ?_; rintro e w' ⟨rfl, rfl⟩))
  go_ret
  exact ⟨rfl, (O2.trans' O3 (by have := O2.size; simp; omega)).below _ (Nat.le_refl _) (by simp)⟩

/- The row's step. -/
set_option maxRecDepth 100000 in
theorem lifted (os : Os) (started : os.Started) (H : Type) (enc : TypeId × Value → H) :
    ReturnsInHanded {} Try.checked os 6 .any (Rows.qualityFormsSpec.pre6 enc Try.prog Try.f6 Rows.qualityFormsRow.domain false) (Rows.qualityFormsSpec.post enc Try.prog Try.f6 false true false false) := by
  refine returnsInHanded_of_change (C := Try.checked) own started (by kernel_rfl) Try.func6
    (ChangeSpec.witness6 (enc := enc) (C := Try.checked) false ⟨#[], #[.int .i64 0, .int .i64 0, .int .i64 0, .int .i64 0, .int .i64 0], []⟩ 8 (by kernel_rfl) (by kernel_rfl) (by kernel_rfl) (by kernel_rfl)) ?_
  intro W base args ds gs before hval0 hW hcnd _
  have hval : ∀ (j : Nat) t v, Try.f6.params[j]? = some t → args[j]? = some v → Value.okWide Try.prog W .any base t v := hval0
  have hW' := hW
  obtain ⟨p, q, hA0, hV, rfl, hfz, hnd⟩ := hW
  have hA : DataW.TrodAll enc Try.prog W 0 (fun _ => true) true Try.f6.params.toList args.toList ds p := hA0
  rw [Try.params6] at hA hval
  obtain ⟨v0, vs0, d0, ds0, p0, q0, hargs, rfl, rfl, h0, r0⟩ := trodAll_cons hA
  obtain ⟨v1, vs1, d1, ds1, p1, q1, rfl, rfl, rfl, h1, r1⟩ := trodAll_cons r0
  obtain ⟨v2, vs2, d2, ds2, p2, q2, rfl, rfl, rfl, h2, r2⟩ := trodAll_cons r1
  obtain ⟨v3, vs3, d3, ds3, p3, q3, rfl, rfl, rfl, h3, r3⟩ := trodAll_cons r2
  obtain ⟨v4, vs4, d4, ds4, p4, q4, rfl, rfl, rfl, h4, r4⟩ := trodAll_cons r3
  obtain ⟨rfl, rfl, rfl⟩ := trodAll_nil r4
  obtain rfl : args = #[v0, v1, v2, v3, v4] := by cases args; simp_all
  obtain ⟨rfl, rfl⟩ := trodVars_none hV
  obtain ⟨a0, rfl, rfl, rfl, w0⟩ := open_int Try.underlying3 (hval 0 3 v0 rfl rfl) h0
  obtain ⟨a1, rfl, rfl, rfl, w1⟩ := open_int Try.underlying3 (hval 1 3 v1 rfl rfl) h1
  obtain ⟨a2, rfl, rfl, rfl, w2⟩ := open_int Try.underlying3 (hval 2 3 v2 rfl rfl) h2
  obtain ⟨a3, rfl, rfl, rfl, w3⟩ := open_int Try.underlying3 (hval 3 3 v3 rfl rfl) h3
  obtain ⟨a4, rfl, rfl, rfl, w4⟩ := open_int Try.underlying3 (hval 4 3 v4 rfl rfl) h4
  clear hA0 hval0
  refine (walk a0 a1 a2 a3 a4 w0 w1 w2 w3 w4 W).mono fun e W' ⟨he, hg⟩ => ?_
  subst he
  exact ⟨_, rfl, _, _, _, [], _, [], hW', (trodAll_cons_mk (shut_bool Try.underlying4 _) trodAll_mk0), (trodAll_cons_mk (shut_int Try.underlying3 w0) (trodAll_cons_mk (shut_int Try.underlying3 w1) (trodAll_cons_mk (shut_int Try.underlying3 w2) (trodAll_cons_mk (shut_int Try.underlying3 w3) (trodAll_cons_mk (shut_int Try.underlying3 w4) trodAll_mk0))))), rfl, hg.frame _, fun h => by cases h⟩

theorem over : Rows.qualityFormsRow.holds Try.pinned (OpenSpec.ofChange Rows.qualityFormsSpec) :=
  OpenClaim.holds_of_wide 6 Try.f6 rfl rfl rfl rfl rfl rfl rfl ⟨rfl, rfl, rfl, rfl, rfl⟩ rfl rfl rfl rfl rfl (by kernel_rfl) Try.func6 (by kernel_rfl)
    (of_decide_eq_true (by kernel_rfl)) (by unfold Func.isWrapper; first | (rw [if_pos (by decide +kernel)]; kernel_rfl) | (rw [if_neg (by decide +kernel)]; exact ⟨rfl, rfl⟩))
    (fun os started H enc _ => lifted os started H enc)

/-- The statement. -/
theorem proved : Rows.QualityFormsSaid :=
  over
#print axioms proved
end Go.Proofs.Ytkmoakbebpibdaa.qualityForms

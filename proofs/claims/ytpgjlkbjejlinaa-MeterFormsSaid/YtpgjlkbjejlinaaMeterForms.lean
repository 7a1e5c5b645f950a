/- Proved here: withylaw23.MeterForms returns true for every input and leaves its arguments as they were (the given statement Rows.MeterFormsSaid). Conditions: none. -/
import Derived.Test.YtpgjlkbjejlinaaRows
import Derived.Test.YtpgjlkbjejlinaaAwake
import Derived.Test.YtpgjlkbjejlinaaMask
import Derived.WalkKit
import Derived.Lib.Hide
import Derived.Deep.Cut
import Derived.StillTactics
import Derived.ProofKit
import Derived.OpenShut
import Derived.ShutString
namespace Go.Proofs.Ytpgjlkbjejlinaa.meterForms
open Go.ChangeShapes Go.WideShapes Go.ChangeAt Go.RowKit
open Plain
open Go.ChangeMaps (open_string shut_string)
set_option linter.unusedVariables false      -- a walk need not use every 'w<i>' (that an integer argument fits its kind)

theorem own : ownKnob Try.prog.godebug = none := by kernel_rfl

/- The walk: the law's text returns true. -/
set_option maxRecDepth 100000 in
set_option maxHeartbeats 4000000 in
theorem walk (a0 : Int) (a1 : Int) (a2 : Int) (a3 : Int) (a4 : Int) (a5 : Int) (w0 : (Lit.int .i64 a0).wf = true) (w1 : (Lit.int .i64 a1).wf = true) (w2 : (Lit.int .i64 a2).wf = true) (w3 : (Lit.int .i64 a3).wf = true) (w4 : (Lit.int .i64 a4).wf = true) (w5 : (Lit.int .i64 a5).wf = true) (w : World) :
    Calls Try.prog 6 #[.int .i64 a0, .int .i64 a1, .int .i64 a2, .int .i64 a3, .int .i64 a4, .int .i64 a5] w fun e w' => e = .returned (.bool true) ∧ Below w.heap.size w w' := by
  by_cases c0 : 1 ≤ a0
  rotate_left
  · have e0 : decide (1 ≤ a0) = false := by simpa using c0
    have HB : Hid (mayB a0 a1 a2 a3 = false) := by show mayB a0 a1 a2 a3 = false; simp [mayB]; omega
    clear c0
    go_enter Try.func6, Try.ntmps6
    go_wp2_with fail
    refine (awake_any w).mono ?_
    rintro e wa ⟨rfl, O0⟩
    go_wp2_with (first | (go_at_call 10; refine (new_bad a0 a1 a2 a3 _ HB.out).mono ?_; rintro e w' ⟨rfl, rfl⟩) | (go_at_call 12; refine (num_any _ _).mono ?_; rintro e w' ⟨rfl, rfl⟩))
    go_ret
    exact ⟨rfl, O0.below _ (Nat.le_refl _) (by simp)⟩
  have e0 : decide (1 ≤ a0) = true := by simpa using c0
  by_cases c1 : a0 ≤ 32
  rotate_left
  · have e1 : decide (a0 ≤ 32) = false := by simpa using c1
    have HB : Hid (mayB a0 a1 a2 a3 = false) := by show mayB a0 a1 a2 a3 = false; simp [mayB]; omega
    clear c1
    go_enter Try.func6, Try.ntmps6
    go_wp2_with fail
    refine (awake_any w).mono ?_
    rintro e wa ⟨rfl, O0⟩
    go_wp2_with (first | (go_at_call 10; refine (new_bad a0 a1 a2 a3 _ HB.out).mono ?_; rintro e w' ⟨rfl, rfl⟩) | (go_at_call 12; refine (num_any _ _).mono ?_; rintro e w' ⟨rfl, rfl⟩))
    go_ret
    exact ⟨rfl, O0.below _ (Nat.le_refl _) (by simp)⟩
  have e1 : decide (a0 ≤ 32) = true := by simpa using c1
  by_cases c2 : 1 ≤ a1
  rotate_left
  · have e2 : decide (1 ≤ a1) = false := by simpa using c2
    have HB : Hid (mayB a0 a1 a2 a3 = false) := by show mayB a0 a1 a2 a3 = false; simp [mayB]; omega
    clear c2
    go_enter Try.func6, Try.ntmps6
    go_wp2_with fail
    refine (awake_any w).mono ?_
    rintro e wa ⟨rfl, O0⟩
    go_wp2_with (first | (go_at_call 10; refine (new_bad a0 a1 a2 a3 _ HB.out).mono ?_; rintro e w' ⟨rfl, rfl⟩) | (go_at_call 12; refine (num_any _ _).mono ?_; rintro e w' ⟨rfl, rfl⟩))
    go_ret
    exact ⟨rfl, O0.below _ (Nat.le_refl _) (by simp)⟩
  have e2 : decide (1 ≤ a1) = true := by simpa using c2
  by_cases c3 : a1 ≤ 1000
  rotate_left
  · have e3 : decide (a1 ≤ 1000) = false := by simpa using c3
    have HB : Hid (mayB a0 a1 a2 a3 = false) := by show mayB a0 a1 a2 a3 = false; simp [mayB]; omega
    clear c3
    go_enter Try.func6, Try.ntmps6
    go_wp2_with fail
    refine (awake_any w).mono ?_
    rintro e wa ⟨rfl, O0⟩
    go_wp2_with (first | (go_at_call 10; refine (new_bad a0 a1 a2 a3 _ HB.out).mono ?_; rintro e w' ⟨rfl, rfl⟩) | (go_at_call 12; refine (num_any _ _).mono ?_; rintro e w' ⟨rfl, rfl⟩))
    go_ret
    exact ⟨rfl, O0.below _ (Nat.le_refl _) (by simp)⟩
  have e3 : decide (a1 ≤ 1000) = true := by simpa using c3
  by_cases c4 : 0 ≤ a2
  rotate_left
  · have e4 : decide (0 ≤ a2) = false := by simpa using c4
    have HB : Hid (mayB a0 a1 a2 a3 = false) := by show mayB a0 a1 a2 a3 = false; simp [mayB]; omega
    clear c4
    go_enter Try.func6, Try.ntmps6
    go_wp2_with fail
    refine (awake_any w).mono ?_
    rintro e wa ⟨rfl, O0⟩
    go_wp2_with (first | (go_at_call 10; refine (new_bad a0 a1 a2 a3 _ HB.out).mono ?_; rintro e w' ⟨rfl, rfl⟩) | (go_at_call 12; refine (num_any _ _).mono ?_; rintro e w' ⟨rfl, rfl⟩))
    go_ret
    exact ⟨rfl, O0.below _ (Nat.le_refl _) (by simp)⟩
  have e4 : decide (0 ≤ a2) = true := by simpa using c4
  by_cases c5 : a2 < a1
  rotate_left
  · have e5 : decide (a2 < a1) = false := by simpa using c5
    have HB : Hid (mayB a0 a1 a2 a3 = false) := by show mayB a0 a1 a2 a3 = false; simp [mayB]; omega
    clear c5
    go_enter Try.func6, Try.ntmps6
    go_wp2_with fail
    refine (awake_any w).mono ?_
    rintro e wa ⟨rfl, O0⟩
    go_wp2_with (first | (go_at_call 10; refine (new_bad a0 a1 a2 a3 _ HB.out).mono ?_; rintro e w' ⟨rfl, rfl⟩) | (go_at_call 12; refine (num_any _ _).mono ?_; rintro e w' ⟨rfl, rfl⟩))
    go_ret
    exact ⟨rfl, O0.below _ (Nat.le_refl _) (by simp)⟩
  have e5 : decide (a2 < a1) = true := by simpa using c5
  by_cases c6 : 1 ≤ a3
  rotate_left
  · have e6 : decide (1 ≤ a3) = false := by simpa using c6
    have HB : Hid (mayB a0 a1 a2 a3 = false) := by show mayB a0 a1 a2 a3 = false; simp [mayB]; omega
    clear c6
    go_enter Try.func6, Try.ntmps6
    go_wp2_with fail
    refine (awake_any w).mono ?_
    rintro e wa ⟨rfl, O0⟩
    go_wp2_with (first | (go_at_call 10; refine (new_bad a0 a1 a2 a3 _ HB.out).mono ?_; rintro e w' ⟨rfl, rfl⟩) | (go_at_call 12; refine (num_any _ _).mono ?_; rintro e w' ⟨rfl, rfl⟩))
    go_ret
    exact ⟨rfl, O0.below _ (Nat.le_refl _) (by simp)⟩
  have e6 : decide (1 ≤ a3) = true := by simpa using c6
  by_cases c7 : a3 ≤ 4096
  rotate_left
  · have e7 : decide (a3 ≤ 4096) = false := by simpa using c7
    have HB : Hid (mayB a0 a1 a2 a3 = false) := by show mayB a0 a1 a2 a3 = false; simp [mayB]; omega
    clear c7
    go_enter Try.func6, Try.ntmps6
    go_wp2_with fail
    refine (awake_any w).mono ?_
    rintro e wa ⟨rfl, O0⟩
    go_wp2_with (first | (go_at_call 10; refine (new_bad a0 a1 a2 a3 _ HB.out).mono ?_; rintro e w' ⟨rfl, rfl⟩) | (go_at_call 12; refine (num_any _ _).mono ?_; rintro e w' ⟨rfl, rfl⟩))
    go_ret
    exact ⟨rfl, O0.below _ (Nat.le_refl _) (by simp)⟩
  have e7 : decide (a3 ≤ 4096) = true := by simpa using c7
  have HB : Hid (mayB a0 a1 a2 a3 = true) := by show mayB a0 a1 a2 a3 = true; simp [mayB]; omega
  go_enter Try.func6, Try.ntmps6
  go_wp2_with fail
  refine (awake_any w).mono ?_
  rintro e wa ⟨rfl, O0⟩
  go_wp2_with fail
  refine (new_st a0 a1 a2 a3 wa HB.out).mono ?_
  rintro e wb ⟨p, rr, rfl, m1, O1, hp, hr⟩
  have O2 := O0.trans O1
  have hsz := O0.size
  clear O0 O1
  by_cases b0 : 0 ≤ a4
  rotate_left
  · have f0 : decide (0 ≤ a4) = false := by simpa using b0
    have HT : Hid (a4 < 0 ∨ 2147483647 < a4 ∨ a5 < 0 ∨ 2147483647 < a5) := by show _ ∨ _; omega
    have hs0 : (st0 a0).sh = 0 := rfl
    clear b0
    go_wp2_with (first | (go_at_call 14; refine (mtick_bad _ a4 a5 _ HT.out).mono ?_; rintro e w' ⟨rfl, rfl⟩) | (go_at_call 12; refine (num_any _ _).mono ?_; rintro e w' ⟨rfl, rfl⟩) | (go_at_call 16; refine (share_st p rr a1 a2 a3 _ _ m1).mono ?_; rintro e w' ⟨rfl, rfl⟩))
    go_ret
    exact ⟨rfl, O2.below _ (Nat.le_refl _) (by simp)⟩
  have f0 : decide (0 ≤ a4) = true := by simpa using b0
  by_cases b1 : a4 ≤ 2147483647
  rotate_left
  · have f1 : decide (a4 ≤ 2147483647) = false := by simpa using b1
    have HT : Hid (a4 < 0 ∨ 2147483647 < a4 ∨ a5 < 0 ∨ 2147483647 < a5) := by show _ ∨ _; omega
    have hs0 : (st0 a0).sh = 0 := rfl
    clear b1
    go_wp2_with (first | (go_at_call 14; refine (mtick_bad _ a4 a5 _ HT.out).mono ?_; rintro e w' ⟨rfl, rfl⟩) | (go_at_call 12; refine (num_any _ _).mono ?_; rintro e w' ⟨rfl, rfl⟩) | (go_at_call 16; refine (share_st p rr a1 a2 a3 _ _ m1).mono ?_; rintro e w' ⟨rfl, rfl⟩))
    go_ret
    exact ⟨rfl, O2.below _ (Nat.le_refl _) (by simp)⟩
  have f1 : decide (a4 ≤ 2147483647) = true := by simpa using b1
  by_cases b2 : 0 ≤ a5
  rotate_left
  · have f2 : decide (0 ≤ a5) = false := by simpa using b2
    have HT : Hid (a4 < 0 ∨ 2147483647 < a4 ∨ a5 < 0 ∨ 2147483647 < a5) := by show _ ∨ _; omega
    have hs0 : (st0 a0).sh = 0 := rfl
    clear b2
    go_wp2_with (first | (go_at_call 14; refine (mtick_bad _ a4 a5 _ HT.out).mono ?_; rintro e w' ⟨rfl, rfl⟩) | (go_at_call 12; refine (num_any _ _).mono ?_; rintro e w' ⟨rfl, rfl⟩) | (go_at_call 16; refine (share_st p rr a1 a2 a3 _ _ m1).mono ?_; rintro e w' ⟨rfl, rfl⟩))
    go_ret
    exact ⟨rfl, O2.below _ (Nat.le_refl _) (by simp)⟩
  have f2 : decide (0 ≤ a5) = true := by simpa using b2
  by_cases b3 : a5 ≤ 2147483647
  rotate_left
  · have f3 : decide (a5 ≤ 2147483647) = false := by simpa using b3
    have HT : Hid (a4 < 0 ∨ 2147483647 < a4 ∨ a5 < 0 ∨ 2147483647 < a5) := by show _ ∨ _; omega
    have hs0 : (st0 a0).sh = 0 := rfl
    clear b3
    go_wp2_with (first | (go_at_call 14; refine (mtick_bad _ a4 a5 _ HT.out).mono ?_; rintro e w' ⟨rfl, rfl⟩) | (go_at_call 12; refine (num_any _ _).mono ?_; rintro e w' ⟨rfl, rfl⟩) | (go_at_call 16; refine (share_st p rr a1 a2 a3 _ _ m1).mono ?_; rintro e w' ⟨rfl, rfl⟩))
    go_ret
    exact ⟨rfl, O2.below _ (Nat.le_refl _) (by simp)⟩
  have f3 : decide (a5 ≤ 2147483647) = true := by simpa using b3
  go_wp2_with (go_at_call 12; refine (num_any _ _).mono ?_; rintro e w' ⟨rfl, rfl⟩)
  refine (tick_any p rr a1 a2 a3 a4 a5 _ _ m1 ⟨b0, b1, b2, b3⟩).mono ?_
  rintro e wc ⟨rfl, m2, O3⟩
  have O4 := O2.trans' O3 (by simp; omega)
  generalize ans a1 a2 a3 (st0 a0) (a4, a5) = A at *
  go_wp2_with (go_at_call 12; refine (num_any _ _).mono ?_; rintro e w' ⟨rfl, rfl⟩)
  go_ret
  exact ⟨rfl, O4.below _ (Nat.le_refl _) (by simp)⟩

/- The row's step. -/
set_option maxRecDepth 100000 in
theorem lifted (os : Os) (started : os.Started) (H : Type) (enc : TypeId × Value → H) :
    ReturnsInHanded {} Try.checked os 6 .any (Rows.meterFormsSpec.pre6 enc Try.prog Try.f6 Rows.meterFormsRow.domain false) (Rows.meterFormsSpec.post enc Try.prog Try.f6 false true false false) := by
  refine returnsInHanded_of_change (C := Try.checked) own started (by kernel_rfl) Try.func6
    (ChangeSpec.witness6 (enc := enc) (C := Try.checked) false ⟨#[], #[.int .i64 0, .int .i64 0, .int .i64 0, .int .i64 0, .int .i64 0, .int .i64 0], []⟩ 8 (by kernel_rfl) (by kernel_rfl) (by kernel_rfl) (by kernel_rfl)) ?_
  intro W base args ds gs before hval0 hW hcnd _
  have hval : ∀ (j : Nat) t v, Try.f6.params[j]? = some t → args[j]? = some v → Value.okWide Try.prog W .any base t v := hval0
  have hW' := hW
  obtain ⟨p, q, hA0, hV, rfl, hfz, hnd⟩ := hW
  have hA : DataW.TrodAll enc Try.prog W 0 (fun _ => true) true Try.f6.params.toList args.toList ds p := hA0
  rw [Try.params6] at hA hval
  obtain ⟨v0, vs0, d0, ds0, p0, q0, hargs, rfl, rfl, h0, r0⟩ := trodAll_cons hA
  obtain ⟨v1, vs1, d1, ds1, p1, q1, rfl, rfl, rfl, h1, r1⟩ := trodAll_cons r0
  obtain ⟨v2, vs2, d2, ds2, p2, q2, rfl, rfl, rfl, h2, r2⟩ := trodAll_cons r1
  obtain ⟨v3, vs3, d3, ds3, p3, q3, rfl, rfl, rfl, h3, r3⟩ := trodAll_cons r2
  obtain ⟨v4, vs4, d4, ds4, p4, q4, rfl, rfl, rfl, h4, r4⟩ := trodAll_cons r3
  obtain ⟨v5, vs5, d5, ds5, p5, q5, rfl, rfl, rfl, h5, r5⟩ := trodAll_cons r4
  obtain ⟨rfl, rfl, rfl⟩ := trodAll_nil r5
  obtain rfl : args = #[v0, v1, v2, v3, v4, v5] := by cases args; simp_all
  obtain ⟨rfl, rfl⟩ := trodVars_none hV
  obtain ⟨a0, rfl, rfl, rfl, w0⟩ := open_int Try.underlying3 (hval 0 3 v0 rfl rfl) h0
  obtain ⟨a1, rfl, rfl, rfl, w1⟩ := open_int Try.underlying3 (hval 1 3 v1 rfl rfl) h1
  obtain ⟨a2, rfl, rfl, rfl, w2⟩ := open_int Try.underlying3 (hval 2 3 v2 rfl rfl) h2
  obtain ⟨a3, rfl, rfl, rfl, w3⟩ := open_int Try.underlying3 (hval 3 3 v3 rfl rfl) h3
  obtain ⟨a4, rfl, rfl, rfl, w4⟩ := open_int Try.underlying3 (hval 4 3 v4 rfl rfl) h4
  obtain ⟨a5, rfl, rfl, rfl, w5⟩ := open_int Try.underlying3 (hval 5 3 v5 rfl rfl) h5
  clear hA0 hval0
  refine (walk a0 a1 a2 a3 a4 a5 w0 w1 w2 w3 w4 w5 W).mono fun e W' ⟨he, hg⟩ => ?_
  subst he
  exact ⟨_, rfl, _, _, _, [], _, [], hW', (trodAll_cons_mk (shut_bool Try.underlying4 _) trodAll_mk0), (trodAll_cons_mk (shut_int Try.underlying3 w0) (trodAll_cons_mk (shut_int Try.underlying3 w1) (trodAll_cons_mk (shut_int Try.underlying3 w2) (trodAll_cons_mk (shut_int Try.underlying3 w3) (trodAll_cons_mk (shut_int Try.underlying3 w4) (trodAll_cons_mk (shut_int Try.underlying3 w5) trodAll_mk0)))))), rfl, hg.frame _, fun h => by cases h⟩

theorem over : Rows.meterFormsRow.holds Try.pinned (OpenSpec.ofChange Rows.meterFormsSpec) :=
  OpenClaim.holds_of_wide 6 Try.f6 rfl rfl rfl rfl rfl rfl rfl ⟨rfl, rfl, rfl, rfl, rfl⟩ rfl rfl rfl rfl rfl (by kernel_rfl) Try.func6 (by kernel_rfl)
    (of_decide_eq_true (by kernel_rfl)) (by unfold Func.isWrapper; first | (rw [if_pos (by decide +kernel)]; kernel_rfl) | (rw [if_neg (by decide +kernel)]; exact ⟨rfl, rfl⟩))
    (fun os started H enc _ => lifted os started H enc)

/-- The statement. -/
theorem proved : Rows.MeterFormsSaid :=
  over
#print axioms proved
end Go.Proofs.Ytpgjlkbjejlinaa.meterForms

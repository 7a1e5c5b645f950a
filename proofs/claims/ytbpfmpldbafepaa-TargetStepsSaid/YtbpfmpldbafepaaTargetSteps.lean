/- Proved here: withylaw24.TargetSteps returns true for every input and leaves its arguments as they were (the given statement Rows.TargetStepsSaid). Conditions: none. -/
import Derived.Test.YtbpfmpldbafepaaRows
import Derived.Test.YtbpfmpldbafepaaAwake
import Derived.Test.YtbpfmpldbafepaaMask
import Derived.WalkKit
import Derived.ProofKit
import Derived.OpenShut
import Derived.ShutString
namespace Go.Proofs.Ytbpfmpldbafepaa.targetSteps
open Go.ChangeShapes Go.WideShapes Go.ChangeAt Go.RowKit
open Plain
open Go.ChangeMaps (open_string shut_string)
set_option linter.unusedVariables false      -- a walk need not use every 'w<i>' (that an integer argument fits its kind)

theorem own : ownKnob Try.prog.godebug = none := by kernel_rfl

theorem cfg_cell {c : Cfg} {w : World} {g : Nat} (h : w.heap[g]? = some (.cells (cells c) 23)) : w.cell? ⟨g, 1, none⟩ = some (.int .i64 c.links) ∧ w.cell? ⟨g, 2, none⟩ = some (.int .i64 c.least) ∧ w.cell? ⟨g, 3, none⟩ = some (.int .i64 c.rate) :=
  ⟨at_cfg h 1, at_cfg h 2, at_cfg h 3⟩

theorem steps_a (m d : Int) (h1 : 1 ≤ m) (h2 : m ≤ 3) (h3 : 0 ≤ d) (h4 : d ≤ 127) : cnt (m * 256 - d) plainC.rate plainC.least plainC.links = m := by
  show min (max ((m * 256 - d + 256 - 1) / 256) 1) 3 = m
  omega
theorem steps_b (m d : Int) (h1 : 1 ≤ m) (h2 : m ≤ 3) (h3 : 0 ≤ d) (h4 : d ≤ 127) : cnt (m * 256 + 1 + d) plainC.rate plainC.least plainC.links = min 3 (m + 1) := by
  show min (max ((m * 256 + 1 + d + 256 - 1) / 256) 1) 3 = min 3 (m + 1)
  omega

/- The walk: the law's text returns true. -/
set_option maxRecDepth 100000 in
set_option maxHeartbeats 2000000 in
theorem walk (a0 : Int) (a1 : Int) (w0 : (Lit.int .i64 a0).wf = true) (w1 : (Lit.int .i64 a1).wf = true) (w : World) :
    Calls Try.prog 6 #[.int .i64 a0, .int .i64 a1] w fun e w' => e = .returned (.bool true) ∧ Below w.heap.size w w' := by
  have M0 := and_127 a1
  have M1 : 0 ≤ a1 % 128 := by omega
  have M2 : a1 % 128 ≤ 127 := by omega
  generalize a1 % 128 = d at *
  have U0 := u64_nonneg a0
  have U1 : 0 ≤ IntKind.u64.wrap a0 % 3 := by omega
  have U2 : IntKind.u64.wrap a0 % 3 ≤ 2 := by omega
  go_enter Try.func6, Try.ntmps6
  go_wp2_with fail
  refine (awake_any w).mono ?_
  rintro e wa ⟨rfl, Oa⟩
  go_wp2_with fail
  refine (plain_any wa).mono ?_
  rintro e wb ⟨rfl, Ob⟩
  go_upto_region 4 with ((with_reducible apply store_new); (focus rfl); (focus rfl); intro w1 hg1 O1)
  have O2 := (Oa.trans Ob).trans O1
  generalize wb.heap.size = B at *
  clear Oa Ob O1
  obtain ⟨k1, k2, k3⟩ := cfg_cell hg1
  rw [show plainC.rate = 256 from rfl] at k3
  go_wp2_with (with_reducible refine wpList_load_row rfl 23 (.tmp 5) rfl _ rfl 23 (cells plainC) (0, 0) _ hg1 Try.underlying23 rfl (sz23 plainC) ?_)
  generalize IntKind.u64.wrap a0 % 3 = u at *
  have V1 : 1 ≤ 1 + u := by omega
  have V2 : 1 + u ≤ 3 := by omega
  clear U0 U1 U2 M0
  generalize 1 + u = m at *
  refine (links_ok (m * 256 - d) plainC w1 plain_may (by omega) (by omega)).mono ?_
  rintro e w2 ⟨rfl, O3⟩
  rw [steps_a m d V1 V2 M1 M2]
  have hg2 := O3.at hg1 (by simp)
  have O4 := O2.trans O3
  clear hg1 k1 k2 k3 O2 O3
  obtain ⟨k1, k2, k3⟩ := cfg_cell hg2
  rw [show plainC.rate = 256 from rfl] at k3
  go_wp2_with (with_reducible refine wpList_load_row rfl 23 (.tmp 5) rfl _ rfl 23 (cells plainC) (0, 0) _ hg2 Try.underlying23 rfl (sz23 plainC) ?_)
  refine (links_ok (m * 256 + 1 + d) plainC w2 plain_may (by omega) (by omega)).mono ?_
  rintro e w3 ⟨rfl, O5⟩
  rw [steps_b m d V1 V2 M1 M2]
  have hg3 := O5.at hg2 (by simp)
  have O6 := O4.trans O5
  clear hg2 k1 k2 k3 O4 O5
  go_wp2_with (with_reducible refine wpList_load_row rfl 23 (.tmp 5) rfl _ rfl 23 (cells plainC) (0, 0) _ hg3 Try.underlying23 rfl (sz23 plainC) ?_)
  refine (links_bad (-1 - d) plainC w3 (.inr (by omega))).mono ?_
  rintro e w4 ⟨rfl, O7⟩
  have hg4 := O7.at hg3 (by simp)
  have O8 := O6.trans O7
  clear hg3 O6 O7
  obtain ⟨k1, k2, k3⟩ := cfg_cell hg4
  rw [show plainC.links = 3 from rfl] at k1
  by_cases hmm : m ≤ 2
  · have e1 : min (3 : Int) (m + 1) = m + 1 := by omega
    have e2 : ¬ (m + 1 < 3) ∨ m + 1 ≤ 3 := by omega
    have e3 : (m == m) = true := by simp
    rw [e1]
    clear e1 e2 hg4
    have e4 : m + 1 ≤ 3 := by omega
    by_cases e5 : m + 1 < 3
    all_goals
      go_wp2_with (go_at_call 9; refine (num_any _ _).mono ?_; rintro e w' ⟨rfl, rfl⟩)
      go_ret
      exact ⟨by first | rfl | (simp; omega), O8.below _ (Nat.le_refl _) (by simp)⟩
  · have e1 : min (3 : Int) (m + 1) = 3 := by omega
    rw [e1]
    clear e1 hg4
    have e5 : ¬ (m + 1 < 3) := by omega
    go_wp2_with (go_at_call 9; refine (num_any _ _).mono ?_; rintro e w' ⟨rfl, rfl⟩)
    go_ret
    exact ⟨rfl, O8.below _ (Nat.le_refl _) (by simp)⟩

/- The row's step. -/
set_option maxRecDepth 100000 in
theorem lifted (os : Os) (started : os.Started) (H : Type) (enc : TypeId × Value → H) :
    ReturnsInHanded {} Try.checked os 6 .any (Rows.targetStepsSpec.pre6 enc Try.prog Try.f6 Rows.targetStepsRow.domain false) (Rows.targetStepsSpec.post enc Try.prog Try.f6 false true false false) := by
  refine returnsInHanded_of_change (C := Try.checked) own started (by kernel_rfl) Try.func6
    (ChangeSpec.witness6 (enc := enc) (C := Try.checked) false ⟨#[], #[.int .i64 0, .int .i64 0], []⟩ 8 (by kernel_rfl) (by kernel_rfl) (by kernel_rfl) (by kernel_rfl)) ?_
  intro W base args ds gs before hval0 hW hcnd _
  have hval : ∀ (j : Nat) t v, Try.f6.params[j]? = some t → args[j]? = some v → Value.okWide Try.prog W .any base t v := hval0
  have hW' := hW
  obtain ⟨p, q, hA0, hV, rfl, hfz, hnd⟩ := hW
  have hA : DataW.TrodAll enc Try.prog W 0 (fun _ => true) true Try.f6.params.toList args.toList ds p := hA0
  rw [Try.params6] at hA hval
  obtain ⟨v0, vs0, d0, ds0, p0, q0, hargs, rfl, rfl, h0, r0⟩ := trodAll_cons hA
  obtain ⟨v1, vs1, d1, ds1, p1, q1, rfl, rfl, rfl, h1, r1⟩ := trodAll_cons r0
  obtain ⟨rfl, rfl, rfl⟩ := trodAll_nil r1
  obtain rfl : args = #[v0, v1] := by cases args; simp_all
  obtain ⟨rfl, rfl⟩ := trodVars_none hV
  obtain ⟨a0, rfl, rfl, rfl, w0⟩ := open_int Try.underlying3 (hval 0 3 v0 rfl rfl) h0
  obtain ⟨a1, rfl, rfl, rfl, w1⟩ := open_int Try.underlying3 (hval 1 3 v1 rfl rfl) h1
  clear hA0 hval0
  refine (walk a0 a1 w0 w1 W).mono fun e W' ⟨he, hg⟩ => ?_
  subst he
  exact ⟨_, rfl, _, _, _, [], _, [], hW', (trodAll_cons_mk (shut_bool Try.underlying4 _) trodAll_mk0), (trodAll_cons_mk (shut_int Try.underlying3 w0) (trodAll_cons_mk (shut_int Try.underlying3 w1) trodAll_mk0)), rfl, hg.frame _, fun h => by cases h⟩

theorem over : Rows.targetStepsRow.holds Try.pinned (OpenSpec.ofChange Rows.targetStepsSpec) :=
  OpenClaim.holds_of_wide 6 Try.f6 rfl rfl rfl rfl rfl rfl rfl ⟨rfl, rfl, rfl, rfl, rfl⟩ rfl rfl rfl rfl rfl (by kernel_rfl) Try.func6 (by kernel_rfl)
    (of_decide_eq_true (by kernel_rfl)) (by unfold Func.isWrapper; first | (rw [if_pos (by decide +kernel)]; kernel_rfl) | (rw [if_neg (by decide +kernel)]; exact ⟨rfl, rfl⟩))
    (fun os started H enc _ => lifted os started H enc)

/-- The statement. -/
theorem proved : Rows.TargetStepsSaid :=
  over
#print axioms proved
end Go.Proofs.Ytbpfmpldbafepaa.targetSteps

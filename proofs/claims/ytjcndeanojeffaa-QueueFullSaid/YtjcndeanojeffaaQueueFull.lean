/- Proved here: withylaw20.QueueFull returns true for every input and leaves its arguments as they were (the given statement Rows.QueueFullSaid). Conditions: none. -/
import Derived.Test.YtjcndeanojeffaaRows
import Derived.Test.YtjcndeanojeffaaChk
import Derived.Test.YtjcndeanojeffaaMask
import Derived.WalkKit
import Derived.Lib.Hide
import Derived.Deep.Cut
import Derived.StillTactics
import Derived.ProofKit
import Derived.OpenShut
import Derived.ShutString
namespace Go.Proofs.Ytjcndeanojeffaa.queueFull
open Go.ChangeShapes Go.WideShapes Go.ChangeAt Go.RowKit
open Plain
open Go.ChangeMaps (open_string shut_string)
set_option linter.unusedVariables false      -- a walk need not use every 'w<i>' (that an integer argument fits its kind)

theorem own : ownKnob Try.prog.godebug = none := by kernel_rfl

/- The walk: the law's text returns true. -/
set_option maxRecDepth 100000 in
set_option maxHeartbeats 2000000 in
theorem walk (a0 : Int) (w0 : (Lit.int .i64 a0).wf = true) (w : World) :
    Calls Try.prog 4 #[.int .i64 a0] w fun e w' => e = .returned (.bool true) ∧ Below w.heap.size w w' := by
  have L0 := and_7 a0
  clear w0
  go_enter Try.func4, Try.ntmps4
  go_wp2_with fail
  refine (awake_any w).mono ?_
  rintro e wa ⟨rfl, O0⟩
  have r31 : 0 ≤ a0 % 8 := by omega
  have r32 : a0 % 8 < 8 := by omega
  generalize a0 % 8 = q at *
  go_wp2_with fail
  refine (qp_new (1 + q) false wa (by omega) (by omega)).mono ?_
  rintro e wb ⟨p, rfl, h0⟩
  have HB := Lib.hid (fun (w' : World) (o : Only [] wa w') => (O0.trans o).below w.heap.size (Nat.le_refl _) (by simp))
  clear L0 O0
  obtain ⟨P, hP, hdiv, hc0⟩ := chk_full (k := 1 + q) (by omega) (by omega)
  go_wp2_with fail
  refine (qp_add h0 0 (by omega) (by omega)).mono ?_
  rintro e wc ⟨rfl, h1⟩
  have HD := Lib.hid hdiv
  have HC0 := Lib.hid (And.intro h1 hc0)
  clear hdiv hc0 h0 h1
  go_wp2_with fail
  go_loopw [6] (fun i wr => ∃ (t : Nat) (S : Q), i = .int .i64 t ∧ t ≤ 64 ∧ QP wa p [] S wr ∧ chkF P (64 - t) S t = true) (fun i _ => 64 - (intOf i).toNat)
  case atStart => exact ⟨0, _, rfl, by omega, HC0.out.1, HC0.out.2⟩
  case round =>
    clear HC0
    obtain ⟨t, S, rfl, ht, hS, hc⟩ := hrel
    by_cases hlt : t < 64
    · have d0 : decide ((t : Int) < 64) = true := by simp; omega
      rw [show 64 - t = (64 - (t + 1)) + 1 by omega] at hc
      simp only [chkF, okC, Bool.and_eq_true, decide_eq_true_eq] at hc
      obtain ⟨⟨⟨c1, c2⟩, c3⟩, c4⟩ := hc
      have hs := qp_submit hS s8 (by decide) c1
      rw [c2] at hs
      have HS := Lib.hid hs
      have HC := Lib.hid (And.intro c3 c4)
      clear c1 c2 c3 c4 hs hS
      go_wp2_with fail
      refine HS.out.mono ?_
      rintro e we ⟨rfl, h3⟩
      have hl := qp_len h3
      rw [HC.out.1] at hl
      clear h3
      go_wp2_with (first | (go_at_call 13; refine (num_any _ _).mono ?_; rintro e w' ⟨rfl, rfl⟩) | (go_at_call 14; refine hl.mono ?_; rintro e w' ⟨rfl, _, hq⟩))
      go_roundw
      case rel => exact ⟨t + 1, _, by go_num, by omega, hq, HC.out.2⟩
      case measure => simp [intOf]; omega
    · have d0 : decide ((t : Int) < 64) = false := by simp; omega
      rw [show 64 - t = 0 by omega] at hc
      simp only [chkF, okC, Bool.and_eq_true, decide_eq_true_eq] at hc
      obtain ⟨⟨c1, c2⟩, c3⟩ := hc
      have hs := qp_submit hS ⟨#[120]⟩ (by decide) c1
      rw [c2] at hs
      have HS := Lib.hid hs
      have HC := Lib.hid c3
      clear c1 c2 c3 hs hS
      go_wp2_with fail
      refine HS.out.mono ?_
      rintro e we ⟨rfl, h3⟩
      have HG := Lib.hid (And.intro h3 HC.out)
      generalize S.submitS ⟨#[120]⟩ = S1 at *
      clear HS HC h3
      have n0 : ¬ 1 + q = 0 := by omega
      have hd2 := HD.out
      go_upto_region 14 with fail
      clear hd2 n0
      go_wp2_with fail
      go_loopw [10] (fun i wr => ∃ (t : Nat) (S : Q), i = .int .i64 t ∧ t ≤ P ∧ QP wa p [] S wr ∧ chkG (P - t) S = true) (fun i _ => 64 - (intOf i).toNat)
      case atStart => exact ⟨0, _, rfl, by omega, HG.out.1, HG.out.2⟩
      case round =>
        clear HG ht d0
        obtain ⟨s, T, rfl, hs, hT, hc⟩ := hrel
        by_cases hls : s < P
        · have d1 : decide ((s : Int) < P) = true := by simp; omega
          rw [show P - s = (P - (s + 1)) + 1 by omega] at hc
          simp only [chkG, okC, Bool.and_eq_true, decide_eq_true_eq] at hc
          obtain ⟨⟨⟨c1, c2⟩, c3⟩, c4⟩ := hc
          have hs2 := qp_submit hT ⟨#[121]⟩ (by decide) c1
          rw [c2] at hs2
          have HS := Lib.hid hs2
          have HC := Lib.hid (And.intro c3 c4)
          clear c1 c2 c3 c4 hs2 hT
          go_wp2_with fail
          refine HS.out.mono ?_
          rintro e wf ⟨rfl, h3⟩
          have hl := qp_len h3
          rw [HC.out.1] at hl
          clear h3
          go_wp2_with (first | (go_at_call 13; refine (num_any _ _).mono ?_; rintro e w' ⟨rfl, rfl⟩) | (go_at_call 14; refine hl.mono ?_; rintro e w' ⟨rfl, _, hq⟩))
          refine (qp_take hq 0 (by omega) (by omega)).mono ?_
          rintro e wg ⟨rfl, h4⟩
          go_wp2_with fail
          go_roundw
          case rel => exact ⟨s + 1, _, by go_num, by omega, h4, HC.out.2⟩
          case measure => simp [intOf]; omega
        · have d1 : decide ((s : Int) < P) = false := by simp; omega
          rw [show P - s = 0 by omega] at hc
          simp only [chkG, okC, Bool.and_eq_true, decide_eq_true_eq] at hc
          obtain ⟨⟨⟨c1, c2⟩, c3⟩, c4⟩ := hc
          have hs2 := qp_submit hT ⟨#[122]⟩ (by decide) c1
          rw [c2] at hs2
          have HS := Lib.hid hs2
          have HC := Lib.hid (And.intro c3 c4)
          clear c1 c2 c3 c4 hs2 hT
          go_wp2_with fail
          refine HS.out.mono ?_
          rintro e wf ⟨rfl, h3⟩
          have hs3 := qp_submit h3 ⟨#[]⟩ (by decide) HC.out.1
          rw [HC.out.2] at hs3
          clear h3
          go_wp2_with fail
          refine hs3.mono ?_
          rintro e wg ⟨rfl, h4⟩
          have HF := Lib.hid (HB.out _ h4.only)
          clear h4
          go_wp2_with (first | (go_at_call 13; refine (num_any _ _).mono ?_; rintro e w' ⟨rfl, rfl⟩))
          go_ret
          exact ⟨by first | rfl | simp, HF.out⟩

/- The row's step. -/
set_option maxRecDepth 100000 in
theorem lifted (os : Os) (started : os.Started) (H : Type) (enc : TypeId × Value → H) :
    ReturnsInHanded {} Try.checked os 4 .any (Rows.queueFullSpec.pre6 enc Try.prog Try.f4 Rows.queueFullRow.domain false) (Rows.queueFullSpec.post enc Try.prog Try.f4 false true false false) := by
  refine returnsInHanded_of_change (C := Try.checked) own started (by kernel_rfl) Try.func4
    (ChangeSpec.witness6 (enc := enc) (C := Try.checked) false ⟨#[], #[.int .i64 0], []⟩ 8 (by kernel_rfl) (by kernel_rfl) (by kernel_rfl) (by kernel_rfl)) ?_
  intro W base args ds gs before hval0 hW hcnd _
  have hval : ∀ (j : Nat) t v, Try.f4.params[j]? = some t → args[j]? = some v → Value.okWide Try.prog W .any base t v := hval0
  have hW' := hW
  obtain ⟨p, q, hA0, hV, rfl, hfz, hnd⟩ := hW
  have hA : DataW.TrodAll enc Try.prog W 0 (fun _ => true) true Try.f4.params.toList args.toList ds p := hA0
  rw [Try.params4] at hA hval
  obtain ⟨v0, vs0, d0, ds0, p0, q0, hargs, rfl, rfl, h0, r0⟩ := trodAll_cons hA
  obtain ⟨rfl, rfl, rfl⟩ := trodAll_nil r0
  obtain rfl : args = #[v0] := by cases args; simp_all
  obtain ⟨rfl, rfl⟩ := trodVars_none hV
  obtain ⟨a0, rfl, rfl, rfl, w0⟩ := open_int Try.underlying3 (hval 0 3 v0 rfl rfl) h0
  clear hA0 hval0
  refine (walk a0 w0 W).mono fun e W' ⟨he, hg⟩ => ?_
  subst he
  exact ⟨_, rfl, _, _, _, [], _, [], hW', (trodAll_cons_mk (shut_bool Try.underlying4 _) trodAll_mk0), (trodAll_cons_mk (shut_int Try.underlying3 w0) trodAll_mk0), rfl, hg.frame _, fun h => by cases h⟩

theorem over : Rows.queueFullRow.holds Try.pinned (OpenSpec.ofChange Rows.queueFullSpec) :=
  OpenClaim.holds_of_wide 4 Try.f4 rfl rfl rfl rfl rfl rfl rfl ⟨rfl, rfl, rfl, rfl, rfl⟩ rfl rfl rfl rfl rfl (by kernel_rfl) Try.func4 (by kernel_rfl)
    (of_decide_eq_true (by kernel_rfl)) (by unfold Func.isWrapper; first | (rw [if_pos (by decide +kernel)]; kernel_rfl) | (rw [if_neg (by decide +kernel)]; exact ⟨rfl, rfl⟩))
    (fun os started H enc _ => lifted os started H enc)

/-- The statement. -/
theorem proved : Rows.QueueFullSaid :=
  over
#print axioms proved
end Go.Proofs.Ytjcndeanojeffaa.queueFull

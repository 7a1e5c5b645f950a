/- Proved here: withylaw23.MeterRoom returns true for every input and leaves its arguments as they were (the given statement Rows.MeterRoomSaid). Conditions: none. -/
import Derived.Test.YtpgjlkbjejlinaaRows
import Derived.Test.YtpgjlkbjejlinaaAwake
import Derived.Test.YtpgjlkbjejlinaaMask
import Derived.WalkKit
import Derived.Lib.Hide
import Derived.Deep.Cut
import Derived.StillTactics
import Derived.ProofKit
import Derived.OpenShut
import Derived.ShutString
namespace Go.Proofs.Ytpgjlkbjejlinaa.meterRoom
open Go.ChangeShapes Go.WideShapes Go.ChangeAt Go.RowKit
open Plain
open Go.ChangeMaps (open_string shut_string)
set_option linter.unusedVariables false      -- a walk need not use every 'w<i>' (that an integer argument fits its kind)

theorem own : ownKnob Try.prog.godebug = none := by kernel_rfl

theorem one_tick (n b r : Int) (h : 1 ≤ n) : s1 (push (zeros n) (b, r)) = b ∧ s2 (push (zeros n) (b, r)) = r := by
  obtain ⟨m, hm⟩ : ∃ m, n.toNat = m + 1 := ⟨n.toNat - 1, by omega⟩
  unfold push zeros
  rw [hm, List.replicate_succ, List.tail_cons, s1_append, s2_append, s1_zero, s2_zero]
  simp [s1, s2]

/- The walk: the law's text returns true. -/
set_option maxRecDepth 100000 in
set_option maxHeartbeats 2000000 in
theorem walk (a0 : Int) (a1 : Int) (a2 : Int) (w0 : (Lit.int .i64 a0).wf = true) (w1 : (Lit.int .i64 a1).wf = true) (w2 : (Lit.int .i64 a2).wf = true) (w : World) :
    Calls Try.prog 5 #[.int .i64 a0, .int .i64 a1, .int .i64 a2] w fun e w' => e = .returned (.bool true) ∧ Below w.heap.size w w' := by
  have M0 := and_65535 a0
  have M1 : 0 ≤ a0 % 65536 := by omega
  have M2 : a0 % 65536 ≤ 65535 := by omega
  have N0 := and_65535 a1
  have N1 : 0 ≤ a1 % 65536 := by omega
  have N2 : a1 % 65536 ≤ 65535 := by omega
  have L0 := and_7 a2
  have L1 : 0 ≤ a2 % 8 := by omega
  have L2 : a2 % 8 ≤ 7 := by omega
  generalize a0 % 65536 = b at *
  generalize a1 % 65536 = r at *
  generalize a2 % 8 = q at *
  have hsh : (stTick 900 100 3 (st0 (1 + q)) (b, r)).sh = shr b r := by
    obtain ⟨h1, h2⟩ := one_tick (1 + q) b r (by omega)
    show shr (s1 (push (zeros (1 + q)) (b, r))) (s2 (push (zeros (1 + q)) (b, r))) = _
    rw [h1, h2]
  have HSH := Lib.hid hsh
  clear hsh
  have hm : mayB (1 + q) 900 100 3 = true := by simp [mayB]; omega
  have HM := Lib.hid hm
  clear hm
  go_enter Try.func5, Try.ntmps5
  go_wp2_with fail
  refine (awake_any w).mono ?_
  rintro e wa ⟨rfl, O0⟩
  go_wp2_with fail
  refine (new_st (1 + q) 900 100 3 wa HM.out).mono ?_
  rintro e wb ⟨p, rr, rfl, m1, O1, hp, hr⟩
  have O2 := O0.trans O1
  have hsz := O0.size
  go_wp2_with fail
  refine (tick_any p rr 900 100 3 b r _ _ m1 ⟨M1, by show b ≤ _; omega, N1, by show r ≤ _; omega⟩).mono ?_
  rintro e wc ⟨rfl, m2, O3⟩
  have O4 := O2.trans' O3 (by simp; omega)
  clear O0 O1 O2 O3 m1 M0 N0 L0
  generalize stTick 900 100 3 (st0 (1 + q)) (b, r) = S at *
  generalize ans 900 100 3 (st0 (1 + q)) (b, r) = A at *
  have u5 : 0 < r → 0 ≤ 1000 * b / r := fun hh => Int.ediv_nonneg (by omega) (by omega)
  by_cases hz : 0 < r
  · have hd : decide (0 < r) = true := by simpa using hz
    have u6 := u5 hz
    clear u5
    have HS2 : Hid (S.sh = min 1000 (1000 * b / r)) := by show _ = _; rw [HSH.out]; exact if_pos hz
    clear HSH
    go_wp2_with (first | ((with_reducible apply wpList_min); (focus rfl); (focus rfl)) | (go_at_call 12; refine (num_any _ _).mono ?_; rintro e w' ⟨rfl, rfl⟩) | (go_at_call 16; refine (share_st p rr 900 100 3 S _ m2).mono ?_; rw [HS2.out]; rintro e w' ⟨rfl, rfl⟩))
    go_ret
    exact ⟨by first | rfl | simp, O4.below _ (Nat.le_refl _) (by simp)⟩
  · have hd : decide (0 < r) = false := by simpa using hz
    have HS2 : Hid (S.sh = 0) := by show _ = _; rw [HSH.out]; exact if_neg hz
    clear HSH u5
    go_wp2_with (first | (go_at_call 12; refine (num_any _ _).mono ?_; rintro e w' ⟨rfl, rfl⟩) | (go_at_call 16; refine (share_st p rr 900 100 3 S _ m2).mono ?_; rw [HS2.out]; rintro e w' ⟨rfl, rfl⟩))
    go_ret
    exact ⟨by first | rfl | simp, O4.below _ (Nat.le_refl _) (by simp)⟩

/- The row's step. -/
set_option maxRecDepth 100000 in
theorem lifted (os : Os) (started : os.Started) (H : Type) (enc : TypeId × Value → H) :
    ReturnsInHanded {} Try.checked os 5 .any (Rows.meterRoomSpec.pre6 enc Try.prog Try.f5 Rows.meterRoomRow.domain false) (Rows.meterRoomSpec.post enc Try.prog Try.f5 false true false false) := by
  refine returnsInHanded_of_change (C := Try.checked) own started (by kernel_rfl) Try.func5
    (ChangeSpec.witness6 (enc := enc) (C := Try.checked) false ⟨#[], #[.int .i64 0, .int .i64 0, .int .i64 0], []⟩ 8 (by kernel_rfl) (by kernel_rfl) (by kernel_rfl) (by kernel_rfl)) ?_
  intro W base args ds gs before hval0 hW hcnd _
  have hval : ∀ (j : Nat) t v, Try.f5.params[j]? = some t → args[j]? = some v → Value.okWide Try.prog W .any base t v := hval0
  have hW' := hW
  obtain ⟨p, q, hA0, hV, rfl, hfz, hnd⟩ := hW
  have hA : DataW.TrodAll enc Try.prog W 0 (fun _ => true) true Try.f5.params.toList args.toList ds p := hA0
  rw [Try.params5] at hA hval
  obtain ⟨v0, vs0, d0, ds0, p0, q0, hargs, rfl, rfl, h0, r0⟩ := trodAll_cons hA
  obtain ⟨v1, vs1, d1, ds1, p1, q1, rfl, rfl, rfl, h1, r1⟩ := trodAll_cons r0
  obtain ⟨v2, vs2, d2, ds2, p2, q2, rfl, rfl, rfl, h2, r2⟩ := trodAll_cons r1
  obtain ⟨rfl, rfl, rfl⟩ := trodAll_nil r2
  obtain rfl : args = #[v0, v1, v2] := by cases args; simp_all
  obtain ⟨rfl, rfl⟩ := trodVars_none hV
  obtain ⟨a0, rfl, rfl, rfl, w0⟩ := open_int Try.underlying3 (hval 0 3 v0 rfl rfl) h0
  obtain ⟨a1, rfl, rfl, rfl, w1⟩ := open_int Try.underlying3 (hval 1 3 v1 rfl rfl) h1
  obtain ⟨a2, rfl, rfl, rfl, w2⟩ := open_int Try.underlying3 (hval 2 3 v2 rfl rfl) h2
  clear hA0 hval0
  refine (walk a0 a1 a2 w0 w1 w2 W).mono fun e W' ⟨he, hg⟩ => ?_
  subst he
  exact ⟨_, rfl, _, _, _, [], _, [], hW', (trodAll_cons_mk (shut_bool Try.underlying4 _) trodAll_mk0), (trodAll_cons_mk (shut_int Try.underlying3 w0) (trodAll_cons_mk (shut_int Try.underlying3 w1) (trodAll_cons_mk (shut_int Try.underlying3 w2) trodAll_mk0))), rfl, hg.frame _, fun h => by cases h⟩

theorem over : Rows.meterRoomRow.holds Try.pinned (OpenSpec.ofChange Rows.meterRoomSpec) :=
  OpenClaim.holds_of_wide 5 Try.f5 rfl rfl rfl rfl rfl rfl rfl ⟨rfl, rfl, rfl, rfl, rfl⟩ rfl rfl rfl rfl rfl (by kernel_rfl) Try.func5 (by kernel_rfl)
    (of_decide_eq_true (by kernel_rfl)) (by unfold Func.isWrapper; first | (rw [if_pos (by decide +kernel)]; kernel_rfl) | (rw [if_neg (by decide +kernel)]; exact ⟨rfl, rfl⟩))
    (fun os started H enc _ => lifted os started H enc)

/-- The statement. -/
theorem proved : Rows.MeterRoomSaid :=
  over
#print axioms proved
end Go.Proofs.Ytpgjlkbjejlinaa.meterRoom

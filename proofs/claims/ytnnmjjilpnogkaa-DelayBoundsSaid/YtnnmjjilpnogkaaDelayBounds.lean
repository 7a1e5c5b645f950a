/- Proved here: withylaw12.DelayBounds returns true for every input and leaves its arguments as they were (the given statement Rows.DelayBoundsSaid). Conditions: none. -/
import Derived.Test.YtnnmjjilpnogkaaRows
import Derived.Test.YtnnmjjilpnogkaaFns
import Derived.Test.YtnnmjjilpnogkaaMask
import Derived.WalkKit
import Derived.ProofKit
import Derived.OpenShut
import Derived.ShutString
namespace Go.Proofs.Ytnnmjjilpnogkaa.delayBounds
open Go.ChangeShapes Go.WideShapes Go.ChangeAt Go.RowKit
open Plain
open Go.ChangeMaps (open_string shut_string)
set_option linter.unusedVariables false      -- a walk need not use every 'w<i>' (that an integer argument fits its kind)

theorem own : ownKnob Try.prog.godebug = none := by kernel_rfl

/- The walk: the law's text returns true. -/
theorem walk (a0 : Int) (a1 : Int) (a2 : Int) (a3 : Int) (w0 : (Lit.int .i64 a0).wf = true) (w1 : (Lit.int .i64 a1).wf = true) (w2 : (Lit.int .i64 a2).wf = true) (w3 : (Lit.int .i64 a3).wf = true) (w : World) :
    Calls Try.prog 4 #[.int .i64 a0, .int .i64 a1, .int .i64 a2, .int .i64 a3] w fun e w' => e = .returned (.bool true) ∧ Grown w w' := by
  obtain ⟨l0, u0⟩ := bounds_i64 w0
  obtain ⟨l1, u1⟩ := bounds_i64 w1
  obtain ⟨l2, u2⟩ := bounds_i64 w2
  obtain ⟨l3, u3⟩ := bounds_i64 w3
  have q0 : 0 ≤ IntKind.u64.wrap a0 := by simp [IntKind.wrap, IntKind.bits, IntKind.signed]; omega
  have q1 : 0 ≤ IntKind.u64.wrap a1 := by simp [IntKind.wrap, IntKind.bits, IntKind.signed]; omega
  have q2 : 0 ≤ IntKind.u64.wrap a2 := by simp [IntKind.wrap, IntKind.bits, IntKind.signed]; omega
  have q3 : 0 ≤ IntKind.u64.wrap a3 := by simp [IntKind.wrap, IntKind.bits, IntKind.signed]; omega
  clear l0 u0 l1 u1 l2 u2 l3 u3 w0 w1 w2 w3
  go_enter Try.func4, Try.ntmps4
  go_wp2_with (go_at_call 11; refine (awake_any _).mono ?_; rintro e w' ⟨rfl, rfl⟩)
  have r1 : 0 ≤ IntKind.u64.wrap a1 % 200 ∧ IntKind.u64.wrap a1 % 200 < 200 := by omega
  have r2 : 0 ≤ IntKind.u64.wrap a2 % 3000 ∧ IntKind.u64.wrap a2 % 3000 < 3000 := by omega
  have r3 : 0 ≤ IntKind.u64.wrap a0 % 62 ∧ IntKind.u64.wrap a0 % 62 < 62 := by omega
  have r4 : 0 ≤ IntKind.u64.wrap a3 % 1000000 ∧ IntKind.u64.wrap a3 % 1000000 < 1000000 := by omega
  generalize IntKind.u64.wrap a1 % 200 = b at *
  generalize IntKind.u64.wrap a2 % 3000 = m at *
  generalize IntKind.u64.wrap a0 % 62 = t at *
  generalize IntKind.u64.wrap a3 % 1000000 = j at *
  generalize IntKind.u64.wrap a0 = y0 at *
  generalize IntKind.u64.wrap a1 = y1 at *
  generalize IntKind.u64.wrap a2 = y2 at *
  generalize IntKind.u64.wrap a3 = y3 at *
  obtain ⟨c1, c2⟩ := r1
  obtain ⟨c3, c4⟩ := r2
  obtain ⟨c5, c6⟩ := r3
  obtain ⟨c7, c8⟩ := r4
  have f1 := D_bd (1 + b) (1 + b + m) (by omega) (by omega) t.toNat
  have f2 := D_bd (1 + b) (1 + b + m) (by omega) (by omega) (t.toNat + 1)
  have f3 := D_mono_k (1 + b) (1 + b + m) (by omega) (by omega) t.toNat
  have f4 : D (1 + b) (1 + b + m) (t + 1).toNat = D (1 + b) (1 + b + m) (t.toNat + 1) := by rw [show (t + 1).toNat = t.toNat + 1 by omega]
  obtain ⟨dx, hdx⟩ : ∃ dx, D (1 + b) (1 + b + m) (t.toNat + 1) = dx := ⟨_, rfl⟩
  obtain ⟨dw, hdw⟩ : ∃ dw, D (1 + b) (1 + b + m) t.toNat = dw := ⟨_, rfl⟩
  have e1 : 0 ≤ j % (dw / 4 + 1) := Int.emod_nonneg _ (by omega)
  have e2 : j % (dw / 4 + 1) < dw / 4 + 1 := Int.emod_lt_of_pos _ (by omega)
  obtain ⟨d, hd⟩ : ∃ d, dw - j % (dw / 4 + 1) = d := ⟨_, rfl⟩
  rw [hdx] at f4 f2 f3
  rw [hdw] at f1 f3
  obtain ⟨f11, f12⟩ := f1
  obtain ⟨f21, f22⟩ := f2
  obtain ⟨f31, f32⟩ := f3
  have g1 : d ≤ dw := by omega
  have g2 : 3 * dw ≤ 4 * d := by omega
  have g3 : 0 ≤ d := by omega
  have E1 : Hid (D (1 + b) (1 + b + m) t.toNat - j % (D (1 + b) (1 + b + m) t.toNat / 4 + 1) = d) := by show _ = _; rw [hdw]; exact hd
  have E2 : Hid (D (1 + b) (1 + b + m) t.toNat - 0 % (D (1 + b) (1 + b + m) t.toNat / 4 + 1) = dw) := by show _ = _; rw [hdw]; simp
  have E3 : Hid (D (1 + b) (1 + b + m) (t + 1).toNat - 0 % (D (1 + b) (1 + b + m) (t + 1).toNat / 4 + 1) = dx) := by show _ = _; rw [f4]; simp
  clear hdx hdw hd f4 e1 e2
  refine (delay_at _ _ _ _ d _ c5 (by omega) (by omega) (by omega) (by omega) (by omega) c7 (by omega) E1.out).mono ?_
  rintro e w' ⟨rfl, rfl⟩
  go_wp2_with fail
  refine (delay_at _ _ _ _ dw _ c5 (by omega) (by omega) (by omega) (by omega) (by omega) (by omega) (by omega) E2.out).mono ?_
  rintro e w' ⟨rfl, rfl⟩
  go_wp2_with fail
  refine (delay_at _ _ _ _ dx _ (by omega) (by omega) (by omega) (by omega) (by omega) (by omega) (by omega) (by omega) E3.out).mono ?_
  rintro e w' ⟨rfl, rfl⟩
  have t1 : decide (d ≤ dw) = true := by simp; omega
  have t2 : decide (3 * dw ≤ 4 * d) = true := by simp; omega
  have t3 : decide (dw ≤ dx) = true := by simp; omega
  have t4 : decide (dx ≤ 1 + b + m) = true := by simp; omega
  have t5 : decide (dx ≤ 2 * dw) = true := by simp; omega
  have t6 : decide (1 + b ≤ dw) = true := by simp; omega
  go_wp2_with (go_at_call 10; refine (num_any _ _).mono ?_; rintro e w' ⟨rfl, rfl⟩)
  go_ret
  exact ⟨by simp [*], Grown.refl _⟩

/- The row's step. -/
set_option maxRecDepth 100000 in
theorem lifted (os : Os) (started : os.Started) (H : Type) (enc : TypeId × Value → H) :
    ReturnsInHanded {} Try.checked os 4 .any (Rows.delayBoundsSpec.pre6 enc Try.prog Try.f4 Rows.delayBoundsRow.domain false) (Rows.delayBoundsSpec.post enc Try.prog Try.f4 false true false false) := by
  refine returnsInHanded_of_change (C := Try.checked) own started (by kernel_rfl) Try.func4
    (ChangeSpec.witness6 (enc := enc) (C := Try.checked) false ⟨#[], #[.int .i64 0, .int .i64 0, .int .i64 0, .int .i64 0], []⟩ 8 (by kernel_rfl) (by kernel_rfl) (by kernel_rfl) (by kernel_rfl)) ?_
  intro W base args ds gs before hval0 hW hcnd _
  have hval : ∀ (j : Nat) t v, Try.f4.params[j]? = some t → args[j]? = some v → Value.okWide Try.prog W .any base t v := hval0
  have hW' := hW
  obtain ⟨p, q, hA0, hV, rfl, hfz, hnd⟩ := hW
  have hA : DataW.TrodAll enc Try.prog W 0 (fun _ => true) true Try.f4.params.toList args.toList ds p := hA0
  rw [Try.params4] at hA hval
  obtain ⟨v0, vs0, d0, ds0, p0, q0, hargs, rfl, rfl, h0, r0⟩ := trodAll_cons hA
  obtain ⟨v1, vs1, d1, ds1, p1, q1, rfl, rfl, rfl, h1, r1⟩ := trodAll_cons r0
  obtain ⟨v2, vs2, d2, ds2, p2, q2, rfl, rfl, rfl, h2, r2⟩ := trodAll_cons r1
  obtain ⟨v3, vs3, d3, ds3, p3, q3, rfl, rfl, rfl, h3, r3⟩ := trodAll_cons r2
  obtain ⟨rfl, rfl, rfl⟩ := trodAll_nil r3
  obtain rfl : args = #[v0, v1, v2, v3] := by cases args; simp_all
  obtain ⟨rfl, rfl⟩ := trodVars_none hV
  obtain ⟨a0, rfl, rfl, rfl, w0⟩ := open_int Try.underlying3 (hval 0 3 v0 rfl rfl) h0
  obtain ⟨a1, rfl, rfl, rfl, w1⟩ := open_int Try.underlying3 (hval 1 3 v1 rfl rfl) h1
  obtain ⟨a2, rfl, rfl, rfl, w2⟩ := open_int Try.underlying3 (hval 2 3 v2 rfl rfl) h2
  obtain ⟨a3, rfl, rfl, rfl, w3⟩ := open_int Try.underlying3 (hval 3 3 v3 rfl rfl) h3
  clear hA0 hval0
  simp only [List.append_nil] at hW'
  refine (walk a0 a1 a2 a3 w0 w1 w2 w3 W).mono fun e W' ⟨he, hg⟩ => ?_
  subst he
  exact ⟨_, rfl, post_of_same (pa := []) (pv := []) hW' (fun _ _ _ => (trodAll_cons_mk (shut_bool Try.underlying4 _) trodAll_mk0)) (fun sp _ => (trodAll_cons_mk (shut_int Try.underlying3 w0) (trodAll_cons_mk (shut_int Try.underlying3 w1) (trodAll_cons_mk (shut_int Try.underlying3 w2) (trodAll_cons_mk (shut_int Try.underlying3 w3) trodAll_mk0))))) (fun _ _ => rfl) rfl
    (hg.frame _) hg.2.1 (ok_one (by kernel_rfl) rfl (okWide_bool_mk Try.underlying4 _))⟩

theorem over : Rows.delayBoundsRow.holds Try.pinned (OpenSpec.ofChange Rows.delayBoundsSpec) :=
  OpenClaim.holds_of_wide 4 Try.f4 rfl rfl rfl rfl rfl rfl rfl ⟨rfl, rfl, rfl, rfl, rfl⟩ rfl rfl rfl rfl rfl (by kernel_rfl) Try.func4 (by kernel_rfl)
    (of_decide_eq_true (by kernel_rfl)) (by unfold Func.isWrapper; first | (rw [if_pos (by decide +kernel)]; kernel_rfl) | (rw [if_neg (by decide +kernel)]; exact ⟨rfl, rfl⟩))
    (fun os started H enc _ => lifted os started H enc)

/-- The statement. -/
theorem proved : Rows.DelayBoundsSaid :=
  over
#print axioms proved
end Go.Proofs.Ytnnmjjilpnogkaa.delayBounds

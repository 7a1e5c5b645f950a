/- Proved here: withylaw12.DelayJitter returns true for every input and leaves its arguments as they were (the given statement Rows.DelayJitterSaid). Conditions: none. -/
import Derived.Test.YtnnmjjilpnogkaaRows
import Derived.Test.YtnnmjjilpnogkaaFns
import Derived.Test.YtnnmjjilpnogkaaMask
import Derived.WalkKit
import Derived.ProofKit
import Derived.OpenShut
import Derived.ShutString
namespace Go.Proofs.Ytnnmjjilpnogkaa.delayJitter
open Go.ChangeShapes Go.WideShapes Go.ChangeAt Go.RowKit
open Plain
open Go.ChangeMaps (open_string shut_string)
set_option linter.unusedVariables false      -- a walk need not use every 'w<i>' (that an integer argument fits its kind)

theorem own : ownKnob Try.prog.godebug = none := by kernel_rfl

/- The walk: the law's text returns true. -/
theorem walk (a0 : Int) (a1 : Int) (a2 : Int) (w0 : (Lit.int .i64 a0).wf = true) (w1 : (Lit.int .i64 a1).wf = true) (w2 : (Lit.int .i64 a2).wf = true) (w : World) :
    Calls Try.prog 6 #[.int .i64 a0, .int .i64 a1, .int .i64 a2] w fun e w' => e = .returned (.bool true) ∧ Grown w w' := by
  obtain ⟨l0, u0⟩ := bounds_i64 w0
  obtain ⟨l1, u1⟩ := bounds_i64 w1
  obtain ⟨l2, u2⟩ := bounds_i64 w2
  have q0 : 0 ≤ IntKind.u64.wrap a0 := by simp [IntKind.wrap, IntKind.bits, IntKind.signed]; omega
  have q1 : 0 ≤ IntKind.u64.wrap a1 := by simp [IntKind.wrap, IntKind.bits, IntKind.signed]; omega
  have q2 : 0 ≤ IntKind.u64.wrap a2 := by simp [IntKind.wrap, IntKind.bits, IntKind.signed]; omega
  clear l0 u0 l1 u1 l2 u2 w0 w1 w2
  go_enter Try.func6, Try.ntmps6
  go_wp2_with (go_at_call 11; refine (awake_any _).mono ?_; rintro e w' ⟨rfl, rfl⟩)
  have r1 : 0 ≤ IntKind.u64.wrap a1 % 100 ∧ IntKind.u64.wrap a1 % 100 < 100 := by omega
  have r2 : 0 ≤ IntKind.u64.wrap a0 % 6 ∧ IntKind.u64.wrap a0 % 6 < 6 := by omega
  generalize IntKind.u64.wrap a1 % 100 = b at *
  generalize IntKind.u64.wrap a0 % 6 = t at *
  generalize IntKind.u64.wrap a0 = y0 at *
  generalize IntKind.u64.wrap a1 = y1 at *
  obtain ⟨c1, c2⟩ := r1
  obtain ⟨c3, c4⟩ := r2
  obtain ⟨w0, hw⟩ : ∃ w0, (1 + b) * 2 ^ t.toNat = w0 := ⟨_, rfl⟩
  have hwb : 1 ≤ w0 ∧ w0 ≤ 3200 := by
    have : t.toNat = 0 ∨ t.toNat = 1 ∨ t.toNat = 2 ∨ t.toNat = 3 ∨ t.toNat = 4 ∨ t.toNat = 5 := by omega
    rcases this with h | h | h | h | h | h <;> rw [h] at hw <;> simp at hw <;> omega
  have hD : D (1 + b) 4096 t.toNat = w0 := by rw [D_small _ _ (by omega) _ (by omega)]; exact hw
  have E0 : Hid (D (1 + b) 4096 t.toNat - 0 % (D (1 + b) 4096 t.toNat / 4 + 1) = w0) := by show _ = _; rw [hD]; simp
  obtain ⟨z1, z2⟩ := hwb
  have HD : Hid (D (1 + b) 4096 t.toNat = w0) := hD
  have HW : Hid ((1 + b) * 2 ^ t.toNat = w0) := hw
  clear hD hw
  refine (delay_at _ _ _ _ w0 _ c3 (by omega) (by omega) (by omega) (by omega) (by omega) (by omega) (by omega) E0.out).mono ?_
  rintro e w' ⟨rfl, rfl⟩
  have e1 : 0 ≤ IntKind.u64.wrap a2 % (w0 / 4 + 1) := Int.emod_nonneg _ (by omega)
  have e2 : IntKind.u64.wrap a2 % (w0 / 4 + 1) < w0 / 4 + 1 := Int.emod_lt_of_pos _ (by omega)
  go_wp2_with (go_at_call 10; refine (num_any _ _).mono ?_; rintro e w' ⟨rfl, rfl⟩)
  generalize IntKind.u64.wrap a2 % (w0 / 4 + 1) = j at *
  generalize IntKind.u64.wrap a2 = y2 at *
  have E1 : Hid (D (1 + b) 4096 t.toNat - j % (D (1 + b) 4096 t.toNat / 4 + 1) = w0 - j) := by show _ = _; rw [HD.out, Int.emod_eq_of_lt e1 e2]
  have E2 : Hid (D (1 + b) 4096 t.toNat - (j + (w0 / 4 + 1)) % (D (1 + b) 4096 t.toNat / 4 + 1) = w0 - j) := by show _ = _; rw [HD.out, Int.add_emod_right, Int.emod_eq_of_lt e1 e2]
  refine (delay_at _ _ _ _ (w0 - j) _ c3 (by omega) (by omega) (by omega) (by omega) (by omega) (by omega) (by omega) E1.out).mono ?_
  rintro e w' ⟨rfl, rfl⟩
  go_wp2_with fail
  refine (delay_at _ _ _ _ (w0 - j) _ c3 (by omega) (by omega) (by omega) (by omega) (by omega) (by omega) (by omega) E2.out).mono ?_
  rintro e w' ⟨rfl, rfl⟩
  have hsh : (w0 == wrap64 ((1 + b) * 2 ^ t.toNat)) = true := by rw [HW.out, IntWalk.wrap64_in _ (by omega)]; simp
  go_wp2_with (go_at_call 10; refine (num_any _ _).mono ?_; rintro e w' ⟨rfl, rfl⟩)
  go_ret
  exact ⟨rfl, Grown.refl _⟩

/- The row's step. -/
set_option maxRecDepth 100000 in
theorem lifted (os : Os) (started : os.Started) (H : Type) (enc : TypeId × Value → H) :
    ReturnsInHanded {} Try.checked os 6 .any (Rows.delayJitterSpec.pre6 enc Try.prog Try.f6 Rows.delayJitterRow.domain false) (Rows.delayJitterSpec.post enc Try.prog Try.f6 false true false false) := by
  refine returnsInHanded_of_change (C := Try.checked) own started (by kernel_rfl) Try.func6
    (ChangeSpec.witness6 (enc := enc) (C := Try.checked) false ⟨#[], #[.int .i64 0, .int .i64 0, .int .i64 0], []⟩ 8 (by kernel_rfl) (by kernel_rfl) (by kernel_rfl) (by kernel_rfl)) ?_
  intro W base args ds gs before hval0 hW hcnd _
  have hval : ∀ (j : Nat) t v, Try.f6.params[j]? = some t → args[j]? = some v → Value.okWide Try.prog W .any base t v := hval0
  have hW' := hW
  obtain ⟨p, q, hA0, hV, rfl, hfz, hnd⟩ := hW
  have hA : DataW.TrodAll enc Try.prog W 0 (fun _ => true) true Try.f6.params.toList args.toList ds p := hA0
  rw [Try.params6] at hA hval
  obtain ⟨v0, vs0, d0, ds0, p0, q0, hargs, rfl, rfl, h0, r0⟩ := trodAll_cons hA
  obtain ⟨v1, vs1, d1, ds1, p1, q1, rfl, rfl, rfl, h1, r1⟩ := trodAll_cons r0
  obtain ⟨v2, vs2, d2, ds2, p2, q2, rfl, rfl, rfl, h2, r2⟩ := trodAll_cons r1
  obtain ⟨rfl, rfl, rfl⟩ := trodAll_nil r2
  obtain rfl : args = #[v0, v1, v2] := by cases args; simp_all
  obtain ⟨rfl, rfl⟩ := trodVars_none hV
  obtain ⟨a0, rfl, rfl, rfl, w0⟩ := open_int Try.underlying3 (hval 0 3 v0 rfl rfl) h0
  obtain ⟨a1, rfl, rfl, rfl, w1⟩ := open_int Try.underlying3 (hval 1 3 v1 rfl rfl) h1
  obtain ⟨a2, rfl, rfl, rfl, w2⟩ := open_int Try.underlying3 (hval 2 3 v2 rfl rfl) h2
  clear hA0 hval0
  simp only [List.append_nil] at hW'
  refine (walk a0 a1 a2 w0 w1 w2 W).mono fun e W' ⟨he, hg⟩ => ?_
  subst he
  exact ⟨_, rfl, post_of_same (pa := []) (pv := []) hW' (fun _ _ _ => (trodAll_cons_mk (shut_bool Try.underlying4 _) trodAll_mk0)) (fun sp _ => (trodAll_cons_mk (shut_int Try.underlying3 w0) (trodAll_cons_mk (shut_int Try.underlying3 w1) (trodAll_cons_mk (shut_int Try.underlying3 w2) trodAll_mk0)))) (fun _ _ => rfl) rfl
    (hg.frame _) hg.2.1 (ok_one (by kernel_rfl) rfl (okWide_bool_mk Try.underlying4 _))⟩

theorem over : Rows.delayJitterRow.holds Try.pinned (OpenSpec.ofChange Rows.delayJitterSpec) :=
  OpenClaim.holds_of_wide 6 Try.f6 rfl rfl rfl rfl rfl rfl rfl ⟨rfl, rfl, rfl, rfl, rfl⟩ rfl rfl rfl rfl rfl (by kernel_rfl) Try.func6 (by kernel_rfl)
    (of_decide_eq_true (by kernel_rfl)) (by unfold Func.isWrapper; first | (rw [if_pos (by decide +kernel)]; kernel_rfl) | (rw [if_neg (by decide +kernel)]; exact ⟨rfl, rfl⟩))
    (fun os started H enc _ => lifted os started H enc)

/-- The statement. -/
theorem proved : Rows.DelayJitterSaid :=
  over
#print axioms proved
end Go.Proofs.Ytnnmjjilpnogkaa.delayJitter

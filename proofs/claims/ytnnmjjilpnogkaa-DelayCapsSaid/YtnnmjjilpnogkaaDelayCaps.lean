/- Proved here: withylaw12.DelayCaps returns true for every input and leaves its arguments as they were (the given statement Rows.DelayCapsSaid). Conditions: none. -/
import Derived.Test.YtnnmjjilpnogkaaRows
import Derived.Test.YtnnmjjilpnogkaaFns
import Derived.Test.YtnnmjjilpnogkaaMask
import Derived.WalkKit
import Derived.ProofKit
import Derived.OpenShut
import Derived.ShutString
namespace Go.Proofs.Ytnnmjjilpnogkaa.delayCaps
open Go.ChangeShapes Go.WideShapes Go.ChangeAt Go.RowKit
open Plain
open Go.ChangeMaps (open_string shut_string)
set_option linter.unusedVariables false      -- a walk need not use every 'w<i>' (that an integer argument fits its kind)

theorem own : ownKnob Try.prog.godebug = none := by kernel_rfl

/- The walk: the law's text returns true. -/
theorem walk (a0 : Int) (a1 : Int) (a2 : Int) (a3 : Int) (w0 : (Lit.int .i64 a0).wf = true) (w1 : (Lit.int .i64 a1).wf = true) (w2 : (Lit.int .i64 a2).wf = true) (w3 : (Lit.int .i64 a3).wf = true) (w : World) :
    Calls Try.prog 7 #[.int .i64 a0, .int .i64 a1, .int .i64 a2, .int .i64 a3] w fun e w' => e = .returned (.bool true) ∧ Grown w w' := by
  obtain ⟨l0, u0⟩ := bounds_i64 w0
  obtain ⟨l1, u1⟩ := bounds_i64 w1
  obtain ⟨l2, u2⟩ := bounds_i64 w2
  obtain ⟨l3, u3⟩ := bounds_i64 w3
  have q0 := u64_nonneg a0
  have m1 := and_255 a1
  have m2 := and_1023 a2
  have m3 := and_511 a3
  clear l0 u0 l1 u1 l2 u2 l3 u3 w0 w1 w2 w3
  go_enter Try.func7, Try.ntmps7
  go_wp2_with (go_at_call 11; refine (awake_any _).mono ?_; rintro e w' ⟨rfl, rfl⟩)
  have r1 : 0 ≤ a1 % 256 ∧ a1 % 256 < 256 := by omega
  have r2 : 0 ≤ a2 % 1024 ∧ a2 % 1024 < 1024 := by omega
  have r3 : 0 ≤ a3 % 512 ∧ a3 % 512 < 512 := by omega
  have r4 : 0 ≤ IntKind.u64.wrap a0 % 63 ∧ IntKind.u64.wrap a0 % 63 < 63 := by omega
  clear m1 m2 m3
  generalize a1 % 256 = b at *
  generalize a2 % 1024 = m at *
  generalize a3 % 512 = k at *
  generalize IntKind.u64.wrap a0 % 63 = t at *
  generalize IntKind.u64.wrap a0 = y0 at *
  obtain ⟨c1, c2⟩ := r1
  obtain ⟨c3, c4⟩ := r2
  obtain ⟨c5, c6⟩ := r3
  obtain ⟨c7, c8⟩ := r4
  obtain ⟨x, hx⟩ : ∃ x, D (1 + b) (1 + b + m) t.toNat = x := ⟨_, rfl⟩
  obtain ⟨y, hy⟩ : ∃ y, D (1 + b) (1 + b + m + k) t.toNat = y := ⟨_, rfl⟩
  have f0 := D_bd (1 + b) (1 + b + m) (by omega) (by omega) t.toNat
  have f1 := D_mono_m (1 + b) (1 + b + m) k (by omega) (by omega) (by omega) t.toNat
  have f2 := D_bd (1 + b) (1 + b + m + k) (by omega) (by omega) t.toNat
  rw [hx] at f0
  rw [hx, hy] at f1
  rw [hy] at f2
  have E1 : Hid (D (1 + b) (1 + b + m) t.toNat - 0 % (D (1 + b) (1 + b + m) t.toNat / 4 + 1) = x) := by show _ = _; rw [hx]; simp
  have E2 : Hid (D (1 + b) (1 + b + m + k) t.toNat - 0 % (D (1 + b) (1 + b + m + k) t.toNat / 4 + 1) = y) := by show _ = _; rw [hy]; simp
  have HX : Hid (D (1 + b) (1 + b + m) t.toNat = x) := hx
  clear hx hy
  obtain ⟨f01, f02⟩ := f0
  obtain ⟨f21, f22⟩ := f2
  refine (delay_at _ _ _ _ x _ c7 (by omega) (by omega) (by omega) (by omega) (by omega) (by omega) (by omega) E1.out).mono ?_
  rintro e w' ⟨rfl, rfl⟩
  go_wp2_with fail
  refine (delay_at _ _ _ _ y _ c7 (by omega) (by omega) (by omega) (by omega) (by omega) (by omega) (by omega) E2.out).mono ?_
  rintro e w' ⟨rfl, rfl⟩
  by_cases hmin : 1 + b + m ≤ 1 + b + k
  · go_wp2_with fail
    obtain ⟨z, hz⟩ : ∃ z, D (1 + b + m) (1 + b + m) t.toNat = z := ⟨_, rfl⟩
    have f3 := D_mono_b (1 + b) (1 + b + m) (1 + b + m) (by omega) (by omega) (by omega) t.toNat
    rw [HX.out, hz] at f3
    have E3 : Hid (D (1 + b + m) (1 + b + m) t.toNat - 0 % (D (1 + b + m) (1 + b + m) t.toNat / 4 + 1) = z) := by show _ = _; rw [hz]; simp
    clear hz
    refine (delay_at _ _ _ _ z _ c7 (by omega) (by omega) (by omega) (by omega) (by omega) (by omega) (by omega) E3.out).mono ?_
    rintro e w' ⟨rfl, rfl⟩
    have t1 : decide (x ≤ y) = true := by simp; omega
    have t2 : decide (x ≤ z) = true := by simp; omega
    by_cases hm : x = 1 + b + m
    · have t3 : (x == 1 + b + m) = true := by simp; omega
      clear hm
      go_wp2_with (go_at_call 10; refine (num_any _ _).mono ?_; rintro e w' ⟨rfl, rfl⟩)
      go_ret
      exact ⟨rfl, Grown.refl _⟩
    · have t3 : (x == 1 + b + m) = false := by simp; omega
      have hp : (1 + b) * 2 ^ t.toNat = x := by
        rcases D_pow (1 + b) (1 + b + m) (by omega) (by omega) t.toNat with h | h
        · rw [HX.out] at h; omega
        · rw [HX.out] at h; exact h.symm
      have t4 : decide (t < 20) = true := by
        simp
        rcases Int.lt_or_le t 20 with h | h
        · exact h
        · exfalso
          have h1 : (2 : Int) ^ 20 ≤ 2 ^ t.toNat := by
            have := Nat.pow_le_pow_right (n := 2) (by omega) (show 20 ≤ t.toNat by omega)
            exact_mod_cast this
          have h2 : 1 * (2 : Int) ^ t.toNat ≤ (1 + b) * 2 ^ t.toNat := Int.mul_le_mul_of_nonneg_right (by omega) (by omega)
          omega
      have t5 : (x == wrap64 ((1 + b) * 2 ^ t.toNat)) = true := by rw [hp, IntWalk.wrap64_in _ (by omega)]; simp
      clear hm hp
      go_wp2_with (go_at_call 10; refine (num_any _ _).mono ?_; rintro e w' ⟨rfl, rfl⟩)
      go_ret
      exact ⟨rfl, Grown.refl _⟩
  · go_wp2_with fail
    obtain ⟨z, hz⟩ : ∃ z, D (1 + b + k) (1 + b + m) t.toNat = z := ⟨_, rfl⟩
    have f3 := D_mono_b (1 + b) (1 + b + k) (1 + b + m) (by omega) (by omega) (by omega) t.toNat
    rw [HX.out, hz] at f3
    have E3 : Hid (D (1 + b + k) (1 + b + m) t.toNat - 0 % (D (1 + b + k) (1 + b + m) t.toNat / 4 + 1) = z) := by show _ = _; rw [hz]; simp
    clear hz
    refine (delay_at _ _ _ _ z _ c7 (by omega) (by omega) (by omega) (by omega) (by omega) (by omega) (by omega) E3.out).mono ?_
    rintro e w' ⟨rfl, rfl⟩
    have t1 : decide (x ≤ y) = true := by simp; omega
    have t2 : decide (x ≤ z) = true := by simp; omega
    by_cases hm : x = 1 + b + m
    · have t3 : (x == 1 + b + m) = true := by simp; omega
      clear hm
      go_wp2_with (go_at_call 10; refine (num_any _ _).mono ?_; rintro e w' ⟨rfl, rfl⟩)
      go_ret
      exact ⟨rfl, Grown.refl _⟩
    · have t3 : (x == 1 + b + m) = false := by simp; omega
      have hp : (1 + b) * 2 ^ t.toNat = x := by
        rcases D_pow (1 + b) (1 + b + m) (by omega) (by omega) t.toNat with h | h
        · rw [HX.out] at h; omega
        · rw [HX.out] at h; exact h.symm
      have t4 : decide (t < 20) = true := by
        simp
        rcases Int.lt_or_le t 20 with h | h
        · exact h
        · exfalso
          have h1 : (2 : Int) ^ 20 ≤ 2 ^ t.toNat := by
            have := Nat.pow_le_pow_right (n := 2) (by omega) (show 20 ≤ t.toNat by omega)
            exact_mod_cast this
          have h2 : 1 * (2 : Int) ^ t.toNat ≤ (1 + b) * 2 ^ t.toNat := Int.mul_le_mul_of_nonneg_right (by omega) (by omega)
          omega
      have t5 : (x == wrap64 ((1 + b) * 2 ^ t.toNat)) = true := by rw [hp, IntWalk.wrap64_in _ (by omega)]; simp
      clear hm hp
      go_wp2_with (go_at_call 10; refine (num_any _ _).mono ?_; rintro e w' ⟨rfl, rfl⟩)
      go_ret
      exact ⟨rfl, Grown.refl _⟩

/- The row's step. -/
set_option maxRecDepth 100000 in
theorem lifted (os : Os) (started : os.Started) (H : Type) (enc : TypeId × Value → H) :
    ReturnsInHanded {} Try.checked os 7 .any (Rows.delayCapsSpec.pre6 enc Try.prog Try.f7 Rows.delayCapsRow.domain false) (Rows.delayCapsSpec.post enc Try.prog Try.f7 false true false false) := by
  refine returnsInHanded_of_change (C := Try.checked) own started (by kernel_rfl) Try.func7
    (ChangeSpec.witness6 (enc := enc) (C := Try.checked) false ⟨#[], #[.int .i64 0, .int .i64 0, .int .i64 0, .int .i64 0], []⟩ 8 (by kernel_rfl) (by kernel_rfl) (by kernel_rfl) (by kernel_rfl)) ?_
  intro W base args ds gs before hval0 hW hcnd _
  have hval : ∀ (j : Nat) t v, Try.f7.params[j]? = some t → args[j]? = some v → Value.okWide Try.prog W .any base t v := hval0
  have hW' := hW
  obtain ⟨p, q, hA0, hV, rfl, hfz, hnd⟩ := hW
  have hA : DataW.TrodAll enc Try.prog W 0 (fun _ => true) true Try.f7.params.toList args.toList ds p := hA0
  rw [Try.params7] at hA hval
  obtain ⟨v0, vs0, d0, ds0, p0, q0, hargs, rfl, rfl, h0, r0⟩ := trodAll_cons hA
  obtain ⟨v1, vs1, d1, ds1, p1, q1, rfl, rfl, rfl, h1, r1⟩ := trodAll_cons r0
  obtain ⟨v2, vs2, d2, ds2, p2, q2, rfl, rfl, rfl, h2, r2⟩ := trodAll_cons r1
  obtain ⟨v3, vs3, d3, ds3, p3, q3, rfl, rfl, rfl, h3, r3⟩ := trodAll_cons r2
  obtain ⟨rfl, rfl, rfl⟩ := trodAll_nil r3
  obtain rfl : args = #[v0, v1, v2, v3] := by cases args; simp_all
  obtain ⟨rfl, rfl⟩ := trodVars_none hV
  obtain ⟨a0, rfl, rfl, rfl, w0⟩ := open_int Try.underlying3 (hval 0 3 v0 rfl rfl) h0
  obtain ⟨a1, rfl, rfl, rfl, w1⟩ := open_int Try.underlying3 (hval 1 3 v1 rfl rfl) h1
  obtain ⟨a2, rfl, rfl, rfl, w2⟩ := open_int Try.underlying3 (hval 2 3 v2 rfl rfl) h2
  obtain ⟨a3, rfl, rfl, rfl, w3⟩ := open_int Try.underlying3 (hval 3 3 v3 rfl rfl) h3
  clear hA0 hval0
  simp only [List.append_nil] at hW'
  refine (walk a0 a1 a2 a3 w0 w1 w2 w3 W).mono fun e W' ⟨he, hg⟩ => ?_
  subst he
  exact ⟨_, rfl, post_of_same (pa := []) (pv := []) hW' (fun _ _ _ => (trodAll_cons_mk (shut_bool Try.underlying4 _) trodAll_mk0)) (fun sp _ => (trodAll_cons_mk (shut_int Try.underlying3 w0) (trodAll_cons_mk (shut_int Try.underlying3 w1) (trodAll_cons_mk (shut_int Try.underlying3 w2) (trodAll_cons_mk (shut_int Try.underlying3 w3) trodAll_mk0))))) (fun _ _ => rfl) rfl
    (hg.frame _) hg.2.1 (ok_one (by kernel_rfl) rfl (okWide_bool_mk Try.underlying4 _))⟩

theorem over : Rows.delayCapsRow.holds Try.pinned (OpenSpec.ofChange Rows.delayCapsSpec) :=
  OpenClaim.holds_of_wide 7 Try.f7 rfl rfl rfl rfl rfl rfl rfl ⟨rfl, rfl, rfl, rfl, rfl⟩ rfl rfl rfl rfl rfl (by kernel_rfl) Try.func7 (by kernel_rfl)
    (of_decide_eq_true (by kernel_rfl)) (by unfold Func.isWrapper; first | (rw [if_pos (by decide +kernel)]; kernel_rfl) | (rw [if_neg (by decide +kernel)]; exact ⟨rfl, rfl⟩))
    (fun os started H enc _ => lifted os started H enc)

/-- The statement. -/
theorem proved : Rows.DelayCapsSaid :=
  over
#print axioms proved
end Go.Proofs.Ytnnmjjilpnogkaa.delayCaps

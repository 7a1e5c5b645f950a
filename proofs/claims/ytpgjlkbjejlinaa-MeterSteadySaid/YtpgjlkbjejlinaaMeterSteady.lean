/- Proved here: withylaw23.MeterSteady returns true for every input and leaves its arguments as they were (the given statement Rows.MeterSteadySaid). Conditions: none. -/
import Derived.Test.YtpgjlkbjejlinaaRows
import Derived.Test.YtpgjlkbjejlinaaLaws
import Derived.Test.YtpgjlkbjejlinaaMask
import Derived.WalkKit
import Derived.Lib.Hide
import Derived.Deep.Cut
import Derived.StillTactics
import Derived.ProofKit
import Derived.OpenShut
import Derived.ShutString
namespace Go.Proofs.Ytpgjlkbjejlinaa.meterSteady
open Go.ChangeShapes Go.WideShapes Go.ChangeAt Go.RowKit
open Plain
open Go.ChangeMaps (open_string shut_string)
set_option linter.unusedVariables false      -- a walk need not use every 'w<i>' (that an integer argument fits its kind)

theorem own : ownKnob Try.prog.godebug = none := by kernel_rfl

theorem steady (h l k s : Int) (t : Nat) (S : St) (hW : S.W = four t s) (hR : dirOf s h l ≠ 0 → eff S.R (dirOf s h l) = (t : Int) % k) (hk : 1 ≤ k) (h0 : 0 ≤ s) (h1 : s ≤ 1000) :
    ans h l k S (s, 1000) = (if ((t : Int) + 1) % k = 0 then dirOf s h l else 0) ∧ (stTick h l k S (s, 1000)).W = four (t + 1) s ∧
    (dirOf s h l ≠ 0 → eff (stTick h l k S (s, 1000)).R (dirOf s h l) = ((t + 1 : Nat) : Int) % k) ∧ (stTick h l k S (s, 1000)).sh = s := by
  have e1 : push S.W (s, 1000) = four (t + 1) s := by rw [hW, four_push]
  have e2 : shareOf (four (t + 1) s) = s := four_share (t + 1) s (by omega) h0 h1
  unfold ans stTick
  simp only
  rw [e1]
  unfold dirF
  rw [e2]
  generalize dirOf s h l = d at *
  by_cases hd : d = 0
  · subst hd
    refine ⟨?_, rfl, fun hh => absurd rfl hh, rfl⟩
    rw [(turn_none S.R k).1]
    simp
  · have hr := hR hd
    have p1 := Int.emod_nonneg (t : Int) (show k ≠ 0 by omega)
    have p2 := Int.emod_lt_of_pos (t : Int) (show 0 < k by omega)
    have p3 := Int.emod_emod_of_dvd (t : Int) (Int.dvd_refl k)
    have p4 : ((t : Int) + 1) % k = ((t : Int) % k + 1) % k := by rw [Int.emod_add_emod]
    by_cases hlt : (t : Int) % k + 1 < k
    · have p5 : ((t : Int) % k + 1) % k = (t : Int) % k + 1 := Int.emod_eq_of_lt (by omega) hlt
      obtain ⟨q1, q2⟩ := turn_on S.R d k hd (by rw [hr]; exact hlt)
      refine ⟨?_, rfl, fun _ => ?_, rfl⟩
      · rw [q1, p4, p5, if_neg (by omega)]
      · rw [q2, eff_mk, hr, Int.natCast_succ, p4, p5]
    · have p6 : (t : Int) % k + 1 = k := by omega
      have p5 : ((t : Int) % k + 1) % k = 0 := by rw [p6, Int.emod_self]
      obtain ⟨q1, q2⟩ := turn_end S.R d k hd (by rw [hr]; omega)
      refine ⟨?_, rfl, fun _ => ?_, rfl⟩
      · rw [q1, p4, p5, if_pos rfl]
      · rw [q2, eff_mk, Int.natCast_succ, p4, p5]

/- The walk: the law's text returns true. -/
set_option maxRecDepth 100000 in
set_option maxHeartbeats 2000000 in
theorem walk (a0 : Int) (a1 : Int) (a2 : Int) (a3 : Int) (w0 : (Lit.int .i64 a0).wf = true) (w1 : (Lit.int .i64 a1).wf = true) (w2 : (Lit.int .i64 a2).wf = true) (w3 : (Lit.int .i64 a3).wf = true) (w : World) :
    Calls Try.prog 4 #[.int .i64 a0, .int .i64 a1, .int .i64 a2, .int .i64 a3] w fun e w' => e = .returned (.bool true) ∧ Below w.heap.size w w' := by
  have U0 := u64_nonneg a0
  have U1 := u64_nonneg a1
  have U2 := u64_nonneg a2
  have L0 := and_15 a3
  clear w0 w1 w2 w3
  go_enter Try.func4, Try.ntmps4
  go_wp2_with fail
  refine (awake_any w).mono ?_
  rintro e wa ⟨rfl, O0⟩
  obtain ⟨s, hs⟩ : ∃ s, IntKind.u64.wrap a0 % 1001 = s := ⟨_, rfl⟩
  obtain ⟨h0, hh0⟩ : ∃ s, IntKind.u64.wrap a1 % 999 = s := ⟨_, rfl⟩
  have r01 : 0 ≤ s := by omega
  have r02 : s < 1001 := by omega
  have r11 : 0 ≤ h0 := by omega
  have r12 : h0 < 999 := by omega
  have r31 : 0 ≤ a3 % 16 := by omega
  have r32 : a3 % 16 < 16 := by omega
  obtain ⟨l, hl⟩ : ∃ l, (IntKind.u64.wrap a2).tmod (2 + h0 - 1) = l := ⟨_, rfl⟩
  have hl' : l = IntKind.u64.wrap a2 % (2 + h0 - 1) := by rw [← hl]; exact Int.tmod_eq_emod_of_nonneg U2
  have r21 := Int.emod_nonneg (IntKind.u64.wrap a2) (show 2 + h0 - 1 ≠ 0 by omega)
  have r22 := Int.emod_lt_of_pos (IntKind.u64.wrap a2) (show 0 < 2 + h0 - 1 by omega)
  rw [← hl'] at r21 r22
  clear hl'
  generalize a3 % 16 = k0 at *
  have HM : Hid (mayB 4 (2 + h0) l (1 + k0) = true) := by show _ = _; simp [mayB]; omega
  go_wp2_with fail
  refine (new_st 4 (2 + h0) l (1 + k0) wa HM.out).mono ?_
  rintro e wb ⟨p, rr, rfl, m1, O1, hp, hr⟩
  have B0 : Below w.heap.size w wb := (O0.trans O1).below _ (Nat.le_refl _) (by simp)
  have hsz := O0.size
  have hW0 : (st0 4).W = four 0 s := rfl
  have hR0 : dirOf s (2 + h0) l ≠ 0 → eff (st0 4).R (dirOf s (2 + h0) l) = ((0 : Nat) : Int) % (1 + k0) := by
    intro hd
    unfold eff st0 run0
    rw [if_neg (fun e => hd e.symm)]
    simp
  have HW0 := Lib.hid hW0
  have HR0 := Lib.hid hR0
  generalize st0 4 = S0 at *
  clear hW0 hR0 O0 O1 hl hs hh0 U0 U1 U2 L0 HM
  have r13 : 2 ≤ 2 + h0 := by omega
  have r33 : 1 ≤ 1 + k0 := by omega
  have r34 : 1 + k0 ≤ 16 := by omega
  have r23 : l ≤ 1000 := by omega
  have r14 : 2 + h0 ≤ 1000 := by omega
  clear r22
  generalize 2 + h0 = h at *
  generalize 1 + k0 = k at *
  clear r11 r12 r31 r32
  go_wp2_with (go_at_call 12; refine (num_any _ _).mono ?_; rintro e w' ⟨rfl, rfl⟩)
  go_loopw [15] (fun i wr => ∃ (t : Nat) (S : St), t ≤ 40 ∧ i = .int .i64 (t + 1) ∧ MS wr p rr h l k S ∧ S.W = four t s ∧ (dirOf s h l ≠ 0 → eff S.R (dirOf s h l) = (t : Int) % k) ∧ Below w.heap.size w wr) (fun i _ => 42 - (intOf i).toNat)
  case atStart => exact ⟨0, S0, by omega, rfl, m1, HW0.out, HR0.out, B0⟩
  case round =>
    clear HW0 HR0 B0 m1
    obtain ⟨t, S, ht, rfl, m, hW, hR, hbel⟩ := hrel
    obtain ⟨st1, st2, st3, st4⟩ := steady h l k s t S hW hR r33 r01 (by omega)
    have HAN := Lib.hid st1
    have HW := Lib.hid st2
    have HR := Lib.hid st3
    have HSH := Lib.hid st4
    clear st1 st2 st3 st4 hW hR
    by_cases hlt : t < 40
    rotate_left
    · have d1 : decide ((t : Int) + 1 ≤ 40) = false := by simp; omega
      clear HAN HW HR HSH
      go_wp2
      go_ret
      exact ⟨rfl, hbel⟩
    have d1 : decide ((t : Int) + 1 ≤ 40) = true := by simp; omega
    obtain ⟨z, hz⟩ : ∃ z, ((t : Int) + 1) % k = z := ⟨_, rfl⟩
    have hz' : ((t : Int) + 1).tmod k = z := by rw [← hz]; exact Int.tmod_eq_emod_of_nonneg (by omega)
    have z1 := Int.emod_nonneg ((t : Int) + 1) (show k ≠ 0 by omega)
    have z2 := Int.emod_lt_of_pos ((t : Int) + 1) (show 0 < k by omega)
    rw [hz] at z1 z2 HAN
    clear hz
    go_wp2_with fail
    refine (tick_any p rr h l k s 1000 S wr m ⟨r01, by show s ≤ _; omega, by omega, by omega⟩).mono ?_
    rintro e w2 ⟨rfl, m2, O2⟩
    have B2 : Below w.heap.size w w2 := hbel.trans (O2.below _ hbel.size (by simp; omega))
    generalize stTick h l k S (s, 1000) = T at *
    generalize ans h l k S (s, 1000) = A at *
    clear m O2 hbel
    by_cases hz0 : z = 0
    rotate_left
    · have d2 : decide (z = 0) = false := by simpa using hz0
      have HA : Hid (A = 0) := by show _ = _; rw [HAN.out]; simp [dirOf, *]
      obtain ⟨rfl⟩ := HA.out
      clear HAN
      go_wp2_with (first | (go_at_call 12; refine (num_any _ _).mono ?_; rintro e w' ⟨rfl, rfl⟩) | (go_at_call 16; refine (share_st p rr h l k T _ m2).mono ?_; rw [HSH.out]; rintro e w' ⟨rfl, rfl⟩))
      go_roundw
      case rel => exact ⟨t + 1, T, by omega, by go_num, m2, HW.out, HR.out, B2⟩
      case measure => simp [intOf]; omega
    obtain rfl := hz0
    by_cases hh : h ≤ s
    · have d3 : decide (h ≤ s) = true := by simpa using hh
      have HA : Hid (A = 1) := by show _ = _; rw [HAN.out]; simp [dirOf, *]
      obtain ⟨rfl⟩ := HA.out
      clear HAN
      go_wp2_with (first | (go_at_call 12; refine (num_any _ _).mono ?_; rintro e w' ⟨rfl, rfl⟩) | (go_at_call 16; refine (share_st p rr h l k T _ m2).mono ?_; rw [HSH.out]; rintro e w' ⟨rfl, rfl⟩))
      go_roundw
      case rel => exact ⟨t + 1, T, by omega, by go_num, m2, HW.out, HR.out, B2⟩
      case measure => simp [intOf]; omega
    have d3 : decide (h ≤ s) = false := by simpa using hh
    by_cases hl : s ≤ l
    · have d4 : decide (s ≤ l) = true := by simpa using hl
      have HA : Hid (A = -1) := by show _ = _; rw [HAN.out]; simp [dirOf, *]
      obtain ⟨rfl⟩ := HA.out
      clear HAN
      go_wp2_with (first | (go_at_call 12; refine (num_any _ _).mono ?_; rintro e w' ⟨rfl, rfl⟩) | (go_at_call 16; refine (share_st p rr h l k T _ m2).mono ?_; rw [HSH.out]; rintro e w' ⟨rfl, rfl⟩))
      go_roundw
      case rel => exact ⟨t + 1, T, by omega, by go_num, m2, HW.out, HR.out, B2⟩
      case measure => simp [intOf]; omega
    · have d4 : decide (s ≤ l) = false := by simpa using hl
    
      have HA : Hid (A = 0) := by show _ = _; rw [HAN.out]; simp [dirOf, *]
      obtain ⟨rfl⟩ := HA.out
      clear HAN
      go_wp2_with (first | (go_at_call 12; refine (num_any _ _).mono ?_; rintro e w' ⟨rfl, rfl⟩) | (go_at_call 16; refine (share_st p rr h l k T _ m2).mono ?_; rw [HSH.out]; rintro e w' ⟨rfl, rfl⟩))
      go_roundw
      case rel => exact ⟨t + 1, T, by omega, by go_num, m2, HW.out, HR.out, B2⟩
      case measure => simp [intOf]; omega


/- The row's step. -/
set_option maxRecDepth 100000 in
theorem lifted (os : Os) (started : os.Started) (H : Type) (enc : TypeId × Value → H) :
    ReturnsInHanded {} Try.checked os 4 .any (Rows.meterSteadySpec.pre6 enc Try.prog Try.f4 Rows.meterSteadyRow.domain false) (Rows.meterSteadySpec.post enc Try.prog Try.f4 false true false false) := by
  refine returnsInHanded_of_change (C := Try.checked) own started (by kernel_rfl) Try.func4
    (ChangeSpec.witness6 (enc := enc) (C := Try.checked) false ⟨#[], #[.int .i64 0, .int .i64 0, .int .i64 0, .int .i64 0], []⟩ 8 (by kernel_rfl) (by kernel_rfl) (by kernel_rfl) (by kernel_rfl)) ?_
  intro W base args ds gs before hval0 hW hcnd _
  have hval : ∀ (j : Nat) t v, Try.f4.params[j]? = some t → args[j]? = some v → Value.okWide Try.prog W .any base t v := hval0
  have hW' := hW
  obtain ⟨p, q, hA0, hV, rfl, hfz, hnd⟩ := hW
  have hA : DataW.TrodAll enc Try.prog W 0 (fun _ => true) true Try.f4.params.toList args.toList ds p := hA0
  rw [Try.params4] at hA hval
  obtain ⟨v0, vs0, d0, ds0, p0, q0, hargs, rfl, rfl, h0, r0⟩ := trodAll_cons hA
  obtain ⟨v1, vs1, d1, ds1, p1, q1, rfl, rfl, rfl, h1, r1⟩ := trodAll_cons r0
  obtain ⟨v2, vs2, d2, ds2, p2, q2, rfl, rfl, rfl, h2, r2⟩ := trodAll_cons r1
  obtain ⟨v3, vs3, d3, ds3, p3, q3, rfl, rfl, rfl, h3, r3⟩ := trodAll_cons r2
  obtain ⟨rfl, rfl, rfl⟩ := trodAll_nil r3
  obtain rfl : args = #[v0, v1, v2, v3] := by cases args; simp_all
  obtain ⟨rfl, rfl⟩ := trodVars_none hV
  obtain ⟨a0, rfl, rfl, rfl, w0⟩ := open_int Try.underlying3 (hval 0 3 v0 rfl rfl) h0
  obtain ⟨a1, rfl, rfl, rfl, w1⟩ := open_int Try.underlying3 (hval 1 3 v1 rfl rfl) h1
  obtain ⟨a2, rfl, rfl, rfl, w2⟩ := open_int Try.underlying3 (hval 2 3 v2 rfl rfl) h2
  obtain ⟨a3, rfl, rfl, rfl, w3⟩ := open_int Try.underlying3 (hval 3 3 v3 rfl rfl) h3
  clear hA0 hval0
  refine (walk a0 a1 a2 a3 w0 w1 w2 w3 W).mono fun e W' ⟨he, hg⟩ => ?_
  subst he
  exact ⟨_, rfl, _, _, _, [], _, [], hW', (trodAll_cons_mk (shut_bool Try.underlying4 _) trodAll_mk0), (trodAll_cons_mk (shut_int Try.underlying3 w0) (trodAll_cons_mk (shut_int Try.underlying3 w1) (trodAll_cons_mk (shut_int Try.underlying3 w2) (trodAll_cons_mk (shut_int Try.underlying3 w3) trodAll_mk0)))), rfl, hg.frame _, fun h => by cases h⟩

theorem over : Rows.meterSteadyRow.holds Try.pinned (OpenSpec.ofChange Rows.meterSteadySpec) :=
  OpenClaim.holds_of_wide 4 Try.f4 rfl rfl rfl rfl rfl rfl rfl ⟨rfl, rfl, rfl, rfl, rfl⟩ rfl rfl rfl rfl rfl (by kernel_rfl) Try.func4 (by kernel_rfl)
    (of_decide_eq_true (by kernel_rfl)) (by unfold Func.isWrapper; first | (rw [if_pos (by decide +kernel)]; kernel_rfl) | (rw [if_neg (by decide +kernel)]; exact ⟨rfl, rfl⟩))
    (fun os started H enc _ => lifted os started H enc)

/-- The statement. -/
theorem proved : Rows.MeterSteadySaid :=
  over
#print axioms proved
end Go.Proofs.Ytpgjlkbjejlinaa.meterSteady

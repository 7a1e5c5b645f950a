/- Proved here: withylaw23.MeterHold returns true for every input and leaves its arguments as they were (the given statement Rows.MeterHoldSaid). Conditions: none. -/
import Derived.Test.YtpgjlkbjejlinaaRows
import Derived.Test.YtpgjlkbjejlinaaLaws
import Derived.Test.YtpgjlkbjejlinaaMask
import Derived.WalkKit
import Derived.Lib.Hide
import Derived.Deep.Cut
import Derived.StillTactics
import Derived.ProofKit
import Derived.OpenShut
import Derived.ShutString
namespace Go.Proofs.Ytpgjlkbjejlinaa.meterHold
open Go.ChangeShapes Go.WideShapes Go.ChangeAt Go.RowKit
open Plain
open Go.ChangeMaps (open_string shut_string)
set_option linter.unusedVariables false      -- a walk need not use every 'w<i>' (that an integer argument fits its kind)

theorem own : ownKnob Try.prog.godebug = none := by kernel_rfl

theorem hold90 (k : Int) (S : St) (c : Int) (hl : S.W.length = 1) (he : eff S.R 1 = c) (h : c + 1 < k) :
    ans 800 200 k S (90, 100) = 0 ∧ (stTick 800 200 k S (90, 100)).W.length = 1 ∧ eff (stTick 800 200 k S (90, 100)).R 1 = c + 1 := by
  have e1 := len_one hl (90, 100)
  have hd : dirOf 900 800 200 = 1 := by decide
  unfold ans stTick
  simp only
  rw [e1]
  unfold dirF
  rw [sh90, hd]
  obtain ⟨q1, q2⟩ := turn_on S.R 1 k (by omega) (by rw [he]; exact h)
  exact ⟨q1, rfl, by rw [q2, eff_mk, he]⟩
theorem hold91 (k : Int) (S : St) (hl : S.W.length = 1) (he : eff S.R 1 + 1 = k) : ans 800 200 k S (90, 100) = 1 := by
  have e1 := len_one hl (90, 100)
  have hd : dirOf 900 800 200 = 1 := by decide
  unfold ans
  rw [e1]
  unfold dirF
  rw [sh90, hd]
  exact (turn_end S.R 1 k (by omega) (by omega)).1
theorem hold50 (k : Int) (S : St) (hl : S.W.length = 1) :
    ans 800 200 k S (50, 100) = 0 ∧ (stTick 800 200 k S (50, 100)).W.length = 1 ∧ eff (stTick 800 200 k S (50, 100)).R 1 = 0 := by
  have e1 := len_one hl (50, 100)
  have hd : dirOf 500 800 200 = 0 := by decide
  unfold ans stTick
  simp only
  rw [e1]
  unfold dirF
  rw [sh50, hd]
  obtain ⟨q1, q2⟩ := turn_none S.R k
  exact ⟨q1, rfl, by unfold eff; rw [q2, if_neg (by omega)]⟩
theorem ok90 : Ok (90, 100) := by unfold Ok; omega
theorem ok50 : Ok (50, 100) := by unfold Ok; omega

/- The walk: the law's text returns true. -/
set_option maxRecDepth 100000 in
set_option maxHeartbeats 2000000 in
theorem walk (a0 : Int) (a1 : Int) (w0 : (Lit.int .i64 a0).wf = true) (w1 : (Lit.int .i64 a1).wf = true) (w : World) :
    Calls Try.prog 7 #[.int .i64 a0, .int .i64 a1] w fun e w' => e = .returned (.bool true) ∧ Below w.heap.size w w' := by
  have U1 := u64_nonneg a1
  have L0 := and_15 a0
  clear w0 w1
  go_enter Try.func7, Try.ntmps7
  go_wp2_with fail
  refine (awake_any w).mono ?_
  rintro e wa ⟨rfl, O0⟩
  have r31 : 0 ≤ a0 % 16 := by omega
  have r32 : a0 % 16 < 16 := by omega
  generalize a0 % 16 = k0 at *
  obtain ⟨g, hg⟩ : ∃ g, (IntKind.u64.wrap a1).tmod (2 + k0 - 1) = g := ⟨_, rfl⟩
  have hg' : g = IntKind.u64.wrap a1 % (2 + k0 - 1) := by rw [← hg]; exact Int.tmod_eq_emod_of_nonneg U1
  have r21 := Int.emod_nonneg (IntKind.u64.wrap a1) (show 2 + k0 - 1 ≠ 0 by omega)
  have r22 := Int.emod_lt_of_pos (IntKind.u64.wrap a1) (show 0 < 2 + k0 - 1 by omega)
  rw [← hg'] at r21 r22
  clear hg'
  have HM : Hid (mayB 1 800 200 (2 + k0) = true) := by show _ = _; simp [mayB]; omega
  go_wp2_with fail
  refine (new_st 1 800 200 (2 + k0) wa HM.out).mono ?_
  rintro e wb ⟨p, rr, rfl, m1, O1, hp, hr⟩
  have B0 : Below w.heap.size w wb := (O0.trans O1).below _ (Nat.le_refl _) (by simp)
  have hsz := O0.size
  have HW0 : Hid ((st0 1).W.length = 1) := by show _ = _; rfl
  have HR0 : Hid (eff (st0 1).R 1 = 0) := by show _ = _; decide
  generalize st0 1 = S0 at *
  clear O0 O1 hg U1 L0 HM
  have r23 : g + 1 < 2 + k0 := by omega
  have r24 : 2 + k0 ≤ 17 := by omega
  clear r22
  generalize 2 + k0 = k at *
  clear r31 r32
  go_wp2
  go_loopw [9] (fun i wr => ∃ (t : Nat) (S : St), (t : Int) ≤ k - 1 ∧ i = .int .i64 t ∧ MS wr p rr 800 200 k S ∧ S.W.length = 1 ∧ ((t : Int) ≤ g ∧ eff S.R 1 = t ∨ g < t ∧ eff S.R 1 = t - g - 1) ∧ Below w.heap.size w wr) (fun i _ => 20 - (intOf i).toNat)
  case atStart => exact ⟨0, S0, by omega, rfl, m1, HW0.out, .inl ⟨by omega, HR0.out⟩, B0⟩
  case round =>
    clear HW0 HR0 B0 m1
    obtain ⟨t, S, ht, rfl, m, hW, hR, hbel⟩ := hrel
    have HW := Lib.hid hW
    have HR := Lib.hid hR
    clear hW hR
    by_cases hlt : (t : Int) < k - 1
    · have d1 : decide ((t : Int) < k - 1) = true := by simpa using hlt
      by_cases hgt : (t : Int) = g
      · have d2 : decide ((t : Int) = g) = true := by simpa using hgt
        obtain ⟨st1, st2, st3⟩ := hold50 k S HW.out
        have HAN := Lib.hid st1
        have HW2 := Lib.hid st2
        have HR2 := Lib.hid st3
        clear st1 st2 st3 HW HR
        go_wp2_with fail
        refine (tick_any p rr 800 200 k 50 100 S wr m ok50).mono ?_
        rw [HAN.out]
        rintro e w2 ⟨rfl, m2, O2⟩
        have B2 : Below w.heap.size w w2 := hbel.trans (O2.below _ hbel.size (by simp; omega))
        generalize stTick 800 200 k S (50, 100) = T at *
        clear m O2 hbel HAN
        go_wp2_with (go_at_call 12; refine (num_any _ _).mono ?_; rintro e w' ⟨rfl, rfl⟩)
        go_roundw
        case rel => exact ⟨t + 1, T, by omega, by go_num, m2, HW2.out, .inr ⟨by omega, by rw [HR2.out]; omega⟩, B2⟩
        case measure => simp [intOf]; omega
      · have d2 : decide ((t : Int) = g) = false := by simpa using hgt
        obtain ⟨c, hc, hc1⟩ : ∃ c, eff S.R 1 = c ∧ (c + 1 < k ∧ ((t : Int) < g ∧ c = t ∨ g < t ∧ c = t - g - 1)) := by
          have := HR.out
          exact ⟨_, rfl, by omega, by omega⟩
        have HC := Lib.hid hc1
        obtain ⟨st1, st2, st3⟩ := hold90 k S c HW.out hc hc1.1
        have HAN := Lib.hid st1
        have HW2 := Lib.hid st2
        have HR2 := Lib.hid st3
        clear st1 st2 st3 HW HR hc hc1
        go_wp2_with fail
        refine (tick_any p rr 800 200 k 90 100 S wr m ok90).mono ?_
        rw [HAN.out]
        rintro e w2 ⟨rfl, m2, O2⟩
        have B2 : Below w.heap.size w w2 := hbel.trans (O2.below _ hbel.size (by simp; omega))
        generalize stTick 800 200 k S (90, 100) = T at *
        clear m O2 hbel HAN
        go_wp2_with (go_at_call 12; refine (num_any _ _).mono ?_; rintro e w' ⟨rfl, rfl⟩)
        go_roundw
        case rel => exact ⟨t + 1, T, by omega, by go_num, m2, HW2.out, by have := HC.out; rw [HR2.out]; omega, B2⟩
        case measure => simp [intOf]; omega
    · have d1 : decide ((t : Int) < k - 1) = false := by simpa using hlt
      have HE : Hid (eff S.R 1 = k - 2 - g) := by
        show _ = _
        have := HR.out
        omega
      clear HR
      go_wp2
      go_loopw [13] (fun i wr => ∃ (j : Nat) (S : St), (j : Int) ≤ g + 1 ∧ i = .int .i64 j ∧ MS wr p rr 800 200 k S ∧ S.W.length = 1 ∧ eff S.R 1 = k - 2 - g + j ∧ Below w.heap.size w wr) (fun i _ => 20 - (intOf i).toNat)
      case atStart => exact ⟨0, S, by omega, rfl, m, HW.out, by rw [HE.out]; omega, hbel⟩
      case round =>
        clear HW HE m hbel d1
        rename_i t0 _ _ _ _ _
        obtain ⟨j, S, hj, rfl, m, hW, hR, hbel⟩ := hrel
        have HW := Lib.hid hW
        have HR := Lib.hid hR
        clear hW hR
        by_cases hlj : (j : Int) ≤ g
        · have d1 : decide ((j : Int) ≤ g) = true := by simpa using hlj
          obtain ⟨st1, st2, st3⟩ := hold90 k S _ HW.out HR.out (by omega)
          have HAN := Lib.hid st1
          have HW2 := Lib.hid st2
          have HR2 := Lib.hid st3
          clear st1 st2 st3 HW HR
          go_wp2_with fail
          refine (tick_any p rr 800 200 k 90 100 S _ m ok90).mono ?_
          rw [HAN.out]
          rintro e w2 ⟨rfl, m2, O2⟩
          have B2 : Below w.heap.size w w2 := hbel.trans (O2.below _ hbel.size (by simp; omega))
          generalize stTick 800 200 k S (90, 100) = T at *
          clear m O2 hbel HAN
          go_wp2_with (go_at_call 12; refine (num_any _ _).mono ?_; rintro e w' ⟨rfl, rfl⟩)
          go_roundw
          case rel => exact ⟨j + 1, T, by omega, by go_num, m2, HW2.out, by rw [HR2.out]; omega, B2⟩
          case measure => simp [intOf]; omega
        · have d1 : decide ((j : Int) ≤ g) = false := by simpa using hlj
          have HAN := Lib.hid (hold91 k S HW.out (by rw [HR.out]; omega))
          clear HW HR
          go_wp2_with fail
          refine (tick_any p rr 800 200 k 90 100 S _ m ok90).mono ?_
          rw [HAN.out]
          rintro e w2 ⟨rfl, m2, O2⟩
          have B2 : Below w.heap.size w w2 := hbel.trans (O2.below _ hbel.size (by simp; omega))
          clear m O2 hbel HAN m2
          go_wp2_with (go_at_call 12; refine (num_any _ _).mono ?_; rintro e w' ⟨rfl, rfl⟩)
          go_ret
          exact ⟨rfl, B2⟩

/- The row's step. -/
set_option maxRecDepth 100000 in
theorem lifted (os : Os) (started : os.Started) (H : Type) (enc : TypeId × Value → H) :
    ReturnsInHanded {} Try.checked os 7 .any (Rows.meterHoldSpec.pre6 enc Try.prog Try.f7 Rows.meterHoldRow.domain false) (Rows.meterHoldSpec.post enc Try.prog Try.f7 false true false false) := by
  refine returnsInHanded_of_change (C := Try.checked) own started (by kernel_rfl) Try.func7
    (ChangeSpec.witness6 (enc := enc) (C := Try.checked) false ⟨#[], #[.int .i64 0, .int .i64 0], []⟩ 8 (by kernel_rfl) (by kernel_rfl) (by kernel_rfl) (by kernel_rfl)) ?_
  intro W base args ds gs before hval0 hW hcnd _
  have hval : ∀ (j : Nat) t v, Try.f7.params[j]? = some t → args[j]? = some v → Value.okWide Try.prog W .any base t v := hval0
  have hW' := hW
  obtain ⟨p, q, hA0, hV, rfl, hfz, hnd⟩ := hW
  have hA : DataW.TrodAll enc Try.prog W 0 (fun _ => true) true Try.f7.params.toList args.toList ds p := hA0
  rw [Try.params7] at hA hval
  obtain ⟨v0, vs0, d0, ds0, p0, q0, hargs, rfl, rfl, h0, r0⟩ := trodAll_cons hA
  obtain ⟨v1, vs1, d1, ds1, p1, q1, rfl, rfl, rfl, h1, r1⟩ := trodAll_cons r0
  obtain ⟨rfl, rfl, rfl⟩ := trodAll_nil r1
  obtain rfl : args = #[v0, v1] := by cases args; simp_all
  obtain ⟨rfl, rfl⟩ := trodVars_none hV
  obtain ⟨a0, rfl, rfl, rfl, w0⟩ := open_int Try.underlying3 (hval 0 3 v0 rfl rfl) h0
  obtain ⟨a1, rfl, rfl, rfl, w1⟩ := open_int Try.underlying3 (hval 1 3 v1 rfl rfl) h1
  clear hA0 hval0
  refine (walk a0 a1 w0 w1 W).mono fun e W' ⟨he, hg⟩ => ?_
  subst he
  exact ⟨_, rfl, _, _, _, [], _, [], hW', (trodAll_cons_mk (shut_bool Try.underlying4 _) trodAll_mk0), (trodAll_cons_mk (shut_int Try.underlying3 w0) (trodAll_cons_mk (shut_int Try.underlying3 w1) trodAll_mk0)), rfl, hg.frame _, fun h => by cases h⟩

theorem over : Rows.meterHoldRow.holds Try.pinned (OpenSpec.ofChange Rows.meterHoldSpec) :=
  OpenClaim.holds_of_wide 7 Try.f7 rfl rfl rfl rfl rfl rfl rfl ⟨rfl, rfl, rfl, rfl, rfl⟩ rfl rfl rfl rfl rfl (by kernel_rfl) Try.func7 (by kernel_rfl)
    (of_decide_eq_true (by kernel_rfl)) (by unfold Func.isWrapper; first | (rw [if_pos (by decide +kernel)]; kernel_rfl) | (rw [if_neg (by decide +kernel)]; exact ⟨rfl, rfl⟩))
    (fun os started H enc _ => lifted os started H enc)

/-- The statement. -/
theorem proved : Rows.MeterHoldSaid :=
  over
#print axioms proved
end Go.Proofs.Ytpgjlkbjejlinaa.meterHold

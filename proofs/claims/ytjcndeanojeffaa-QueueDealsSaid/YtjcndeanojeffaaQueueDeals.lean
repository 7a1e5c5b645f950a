/- Proved here: withylaw20.QueueDeals returns true for every input and leaves its arguments as they were (the given statement Rows.QueueDealsSaid). Conditions: none. -/
import Derived.Test.YtjcndeanojeffaaRows
import Derived.Test.YtjcndeanojeffaaDeals
import Derived.Test.YtjcndeanojeffaaMask
import Derived.WalkKit
import Derived.Lib.Hide
import Derived.Deep.Cut
import Derived.StillTactics
import Derived.ProofKit
import Derived.OpenShut
import Derived.ShutString
namespace Go.Proofs.Ytjcndeanojeffaa.queueDeals
open Go.ChangeShapes Go.WideShapes Go.ChangeAt Go.RowKit
open Plain
open Go.ChangeMaps (open_string shut_string)
set_option linter.unusedVariables false      -- a walk need not use every 'w<i>' (that an integer argument fits its kind)

theorem own : ownKnob Try.prog.godebug = none := by kernel_rfl

/- The walk: the law's text returns true. -/
set_option maxRecDepth 100000 in
set_option maxHeartbeats 2000000 in
theorem walk (a0 : Int) (a1 : Int) (a2 : Int) (w0 : (Lit.int .i64 a0).wf = true) (w1 : (Lit.int .i64 a1).wf = true) (w2 : (Lit.int .i64 a2).wf = true) (w : World) :
    Calls Try.prog 3 #[.int .i64 a0, .int .i64 a1, .int .i64 a2] w fun e w' => e = .returned (.bool true) ∧ Below w.heap.size w w' := by
  have L0 := and_3 a1
  have L1 := and_31 a0
  clear w0 w1 w2
  go_enter Try.func3, Try.ntmps3
  go_wp2_with fail
  refine (awake_any w).mono ?_
  rintro e wa ⟨rfl, O0⟩
  have r31 : 0 ≤ a1 % 4 := by omega
  have r32 : a1 % 4 < 4 := by omega
  have r33 : 0 ≤ a0 % 32 := by omega
  have r34 : a0 % 32 < 32 := by omega
  generalize a1 % 4 = q at *
  generalize a0 % 32 = r at *
  obtain ⟨K, hK⟩ := Int.eq_ofNat_of_zero_le (show 0 ≤ 1 + q by omega)
  obtain ⟨M, hM⟩ := Int.eq_ofNat_of_zero_le (show 0 ≤ 1 + r by omega)
  have k1 : 1 ≤ K := by omega
  have k4 : K ≤ 4 := by omega
  have m1 : 1 ≤ M := by omega
  have m32 : M ≤ 32 := by omega
  have HK := Lib.hid (And.intro hK hM)
  clear hK hM
  go_upto_region 5 with fail
  rw [HK.out.1, HK.out.2]
  clear HK L0 L1 r31 r32 r33 r34
  go_wp2_with fail
  refine (qp_new 1 true wa (by omega) (by omega)).mono ?_
  rintro e wb ⟨p, rfl, h0⟩
  have HB := Lib.hid (fun (w' : World) (o : Only [] wa w') => (O0.trans o).below w.heap.size (Nat.le_refl _) (by simp))
  clear O0
  have HC0 := Lib.hid h0
  clear h0
  go_wp2_with fail
  go_loopw [11] (fun i wr => ∃ (t : Int) (S : Q), i = .int .i64 t ∧ -1 ≤ t ∧ t ≤ 3 ∧ QP wa p [] S wr ∧ addsN (t + 1).toNat S = addsN K (Q.new 1 true)) (fun i _ => (intOf i + 1).toNat)
  case atStart => exact ⟨(K : Int) - 1, _, rfl, by omega, by omega, HC0.out, by rw [show ((K : Int) - 1 + 1).toNat = K by omega]⟩
  case round =>
    clear HC0
    obtain ⟨t, S, rfl, ht0, ht1, hS, hc⟩ := hrel
    by_cases hlt : 0 ≤ t
    · have d0 : decide (0 ≤ t) = true := by simpa using hlt
      rw [show (t + 1).toNat = t.toNat + 1 by omega] at hc
      simp only [addsN] at hc
      rw [show ((t.toNat : Nat) : Int) = t by omega] at hc
      have HC := Lib.hid hc
      have HA := Lib.hid (qp_add hS (10 * t) (by omega) (by omega))
      clear hc hS
      go_wp2_with fail
      refine HA.out.mono ?_
      rintro e we ⟨rfl, h3⟩
      clear HA
      go_wp2_with fail
      go_roundw
      case rel => exact ⟨t - 1, _, by go_num, by omega, by omega, h3, by rw [show (t - 1 + 1).toNat = t.toNat by omega]; exact HC.out⟩
      case measure => simp [intOf]; omega
    · have d0 : decide (0 ≤ t) = false := by simpa using hlt
      rw [show (t + 1).toNat = 0 by omega] at hc
      simp only [addsN] at hc
      have HC := Lib.hid hc
      have HS := Lib.hid hS
      clear hc hS
      go_upto_region 11 with fail
      have hff : ∃ f : Nat, wrap64 ((IntKind.u64.wrap a2).tmod (K : Int)) = f ∧ f < K := by
        have u0 := u64_nonneg a2
        generalize IntKind.u64.wrap a2 = u at *
        rw [Int.tmod_eq_emod_of_nonneg u0]
        have e0 := Int.emod_nonneg u (show (K : Int) ≠ 0 by omega)
        have e1 := Int.emod_lt_of_pos u (show (0 : Int) < K by omega)
        obtain ⟨f, hf⟩ := Int.eq_ofNat_of_zero_le e0
        refine ⟨f, ?_, by omega⟩
        rw [hf]
        exact IntWalk.wrap64_in _ (by omega)
      obtain ⟨f, hf, hfK⟩ := hff
      rw [hf]
      clear hf
      have hck := chk_deals k4 hfK m1 m32
      unfold chkD at hck
      rw [← HC.out] at hck
      simp only [okC, Bool.and_eq_true, decide_eq_true_eq, List.all_eq_true, List.mem_range] at hck
      obtain ⟨⟨⟨⟨c1, c2⟩, c3⟩, c4⟩, c5⟩ := hck
      have hsub := qp_submit (HS.out.quiet ((Only.refl [] wr).alloc (.cells (rowZ M) 5))) (zeros M) (by rw [zeros_size]; omega) c1
      rw [c2] at hsub
      have HSub := Lib.hid hsub
      have HC4 := Lib.hid c4
      have HC5 := Lib.hid c5
      have HC3 := Lib.hid c3
      have hmk := makeZeros M m32 wr
      have hcv := conv_zeros M wr
      clear hsub c1 c2 c3 c4 c5 HS HC d0 hlt ht0 ht1
      go_wp2_with fail
      refine HSub.out.mono ?_
      rintro e we ⟨rfl, h3⟩
      have htk := qp_take h3 (10 * (f : Int)) (by omega) (by omega)
      rw [HC3.out] at htk
      have HTk := Lib.hid htk
      clear h3 htk HSub HC3 hmk hcv
      go_wp2_with fail
      refine HTk.out.mono ?_
      rintro e wf ⟨rfl, h4⟩
      clear HTk
      generalize (S.submitS (zeros M)).takeF (10 * (f : Int)) = g1 at *
      generalize (S.submitS (zeros M)).takeS (10 * (f : Int)) = U at *
      have h5 := h4.quiet ((Only.refl [] wf).alloc (.cells #[.bool g1.b, .bool g1.e, .int .i64 g1.q, .string g1.d] 32))
      clear h4
      simp only [frV]
      go_upto_region 13 with fail
      generalize wf.heap.size = b1 at *
      generalize wf.alloc (.cells #[.bool g1.b, .bool g1.e, .int .i64 g1.q, .string g1.d] 32) = wg at *
      have H5 := Lib.hid h5
      clear h5
      go_wp2_with fail
      go_loopw [16] (fun i wr => ∃ (t : Nat), i = .int .i64 t ∧ t ≤ K ∧ QP wa p [] U wr) (fun i _ => 64 - (intOf i).toNat)
      case atStart => exact ⟨0, rfl, by omega, H5.out⟩
      case round =>
        clear H5
        obtain ⟨s, rfl, hs, hU⟩ := hrel
        by_cases hls : s < K
        · have d1 : decide ((s : Int) < K) = true := by simp; omega
          have hw := HC4.out s hls
          have nK : ¬ (K : Int) = 0 := by omega
          have hU' := Lib.hid hU
          have hwt := qp_waits hU (10 * (s : Int)) (by omega) (by omega)
          have nb0 : 0 ≤ (M : Int) / K := Int.ediv_nonneg (by omega) (by omega)
          have nb1 : (M : Int) / K ≤ 32 := by
            have := Int.ediv_le_self (K : Int) (show 0 ≤ (M : Int) by omega)
            omega
          unfold wantN at hw
          have HW := Lib.hid hw
          have HWT := Lib.hid hwt
          clear hw hwt hU
          go_upto_region 18 with fail
          have hw := HW.out
          have hwt := HWT.out
          clear HW HWT
          generalize (M : Int) / K = n9 at *
          by_cases e1 : ((s : Int) - f) % K < (M : Int) % K <;> by_cases e2 : (s : Int) = f
          all_goals
            first | rw [if_pos e2, if_pos e1] at hw | rw [if_neg e2, if_pos e1] at hw | rw [if_pos e2, if_neg e1] at hw | rw [if_neg e2, if_neg e1] at hw
            rw [hw] at hwt
            clear hw
            first | (have d2 : decide (((s : Int) - f) % K < (M : Int) % K) = true := by simpa using e1) | (have d2 : decide (((s : Int) - f) % K < (M : Int) % K) = false := by simpa using e1)
            first | (have d3 : (((s : Int) == (f : Int)) = true ∧ decide (s = f) = true ∧ decide ((s : Int) = f) = true) := by simp; omega) | (have d3 : (((s : Int) == (f : Int)) = false ∧ decide (s = f) = false ∧ decide ((s : Int) = f) = false) := by simp; omega)
            obtain ⟨d3, d4, d5⟩ := d3
            clear e1 e2
            go_wp2_with (go_at_call 12; refine hwt.mono ?_; rintro e w' ⟨rfl, rfl⟩)
          all_goals
            go_roundw
            case rel => exact ⟨s + 1, by go_num, by omega, hU'.out⟩
            case measure => simp [intOf]; omega
        · have d1 : decide ((s : Int) < K) = false := by simp; omega
          have hl := qp_len hU
          have h5 := HC5.out
          clear hU HC4 HC5
          by_cases hm : 1 < M
          · have d2 : decide (1 < (M : Int)) = true := by simp; omega
            have e5 : U.len = 1 := by simpa [hm] using h5
            rw [e5] at hl
            clear h5 e5
            go_wp2_with (first | (go_at_call 13; refine (num_any _ _).mono ?_; rintro e w' ⟨rfl, rfl⟩) | (go_at_call 14; refine hl.mono ?_; rintro e w' ⟨rfl, _, hq⟩))
            go_ret
            exact ⟨by first | rfl | simp, HB.out _ hq.only⟩
          · have d2 : decide (1 < (M : Int)) = false := by simp; omega
            have e5 : ¬ U.len = 1 := by simpa [hm] using h5
            generalize U.len = L at *
            have e6 : ¬ (L : Int) = 1 := by omega
            have d3 : decide ((L : Int) = 1) = false := by simpa using e6
            clear h5
            go_wp2_with (first | (go_at_call 13; refine (num_any _ _).mono ?_; rintro e w' ⟨rfl, rfl⟩) | (go_at_call 14; refine hl.mono ?_; rintro e w' ⟨rfl, _, hq⟩))
            go_ret
            exact ⟨by first | rfl | (simp; done) | (simp; omega), HB.out _ hq.only⟩

/- The row's step. -/
set_option maxRecDepth 100000 in
theorem lifted (os : Os) (started : os.Started) (H : Type) (enc : TypeId × Value → H) :
    ReturnsInHanded {} Try.checked os 3 .any (Rows.queueDealsSpec.pre6 enc Try.prog Try.f3 Rows.queueDealsRow.domain false) (Rows.queueDealsSpec.post enc Try.prog Try.f3 false true false false) := by
  refine returnsInHanded_of_change (C := Try.checked) own started (by kernel_rfl) Try.func3
    (ChangeSpec.witness6 (enc := enc) (C := Try.checked) false ⟨#[], #[.int .i64 0, .int .i64 0, .int .i64 0], []⟩ 8 (by kernel_rfl) (by kernel_rfl) (by kernel_rfl) (by kernel_rfl)) ?_
  intro W base args ds gs before hval0 hW hcnd _
  have hval : ∀ (j : Nat) t v, Try.f3.params[j]? = some t → args[j]? = some v → Value.okWide Try.prog W .any base t v := hval0
  have hW' := hW
  obtain ⟨p, q, hA0, hV, rfl, hfz, hnd⟩ := hW
  have hA : DataW.TrodAll enc Try.prog W 0 (fun _ => true) true Try.f3.params.toList args.toList ds p := hA0
  rw [Try.params3] at hA hval
  obtain ⟨v0, vs0, d0, ds0, p0, q0, hargs, rfl, rfl, h0, r0⟩ := trodAll_cons hA
  obtain ⟨v1, vs1, d1, ds1, p1, q1, rfl, rfl, rfl, h1, r1⟩ := trodAll_cons r0
  obtain ⟨v2, vs2, d2, ds2, p2, q2, rfl, rfl, rfl, h2, r2⟩ := trodAll_cons r1
  obtain ⟨rfl, rfl, rfl⟩ := trodAll_nil r2
  obtain rfl : args = #[v0, v1, v2] := by cases args; simp_all
  obtain ⟨rfl, rfl⟩ := trodVars_none hV
  obtain ⟨a0, rfl, rfl, rfl, w0⟩ := open_int Try.underlying3 (hval 0 3 v0 rfl rfl) h0
  obtain ⟨a1, rfl, rfl, rfl, w1⟩ := open_int Try.underlying3 (hval 1 3 v1 rfl rfl) h1
  obtain ⟨a2, rfl, rfl, rfl, w2⟩ := open_int Try.underlying3 (hval 2 3 v2 rfl rfl) h2
  clear hA0 hval0
  refine (walk a0 a1 a2 w0 w1 w2 W).mono fun e W' ⟨he, hg⟩ => ?_
  subst he
  exact ⟨_, rfl, _, _, _, [], _, [], hW', (trodAll_cons_mk (shut_bool Try.underlying4 _) trodAll_mk0), (trodAll_cons_mk (shut_int Try.underlying3 w0) (trodAll_cons_mk (shut_int Try.underlying3 w1) (trodAll_cons_mk (shut_int Try.underlying3 w2) trodAll_mk0))), rfl, hg.frame _, fun h => by cases h⟩

theorem over : Rows.queueDealsRow.holds Try.pinned (OpenSpec.ofChange Rows.queueDealsSpec) :=
  OpenClaim.holds_of_wide 3 Try.f3 rfl rfl rfl rfl rfl rfl rfl ⟨rfl, rfl, rfl, rfl, rfl⟩ rfl rfl rfl rfl rfl (by kernel_rfl) Try.func3 (by kernel_rfl)
    (of_decide_eq_true (by kernel_rfl)) (by unfold Func.isWrapper; first | (rw [if_pos (by decide +kernel)]; kernel_rfl) | (rw [if_neg (by decide +kernel)]; exact ⟨rfl, rfl⟩))
    (fun os started H enc _ => lifted os started H enc)

/-- The statement. -/
theorem proved : Rows.QueueDealsSaid :=
  over
#print axioms proved
end Go.Proofs.Ytjcndeanojeffaa.queueDeals

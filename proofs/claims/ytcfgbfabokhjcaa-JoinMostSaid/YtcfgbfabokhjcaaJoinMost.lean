/- Proved here: withylaw19.JoinMost returns true for every input and leaves its arguments as they were (the given statement Rows.JoinMostSaid). Conditions: none. -/
import Derived.Test.YtcfgbfabokhjcaaRows
import Derived.Test.YtcfgbfabokhjcaaChk
import Derived.Test.YtcfgbfabokhjcaaMask
import Derived.WalkKit
import Derived.Lib.Hide
import Derived.Deep.Cut
import Derived.StillTactics
import Derived.ProofKit
import Derived.OpenShut
import Derived.ShutString
namespace Go.Proofs.Ytcfgbfabokhjcaa.joinMost
open Go.ChangeShapes Go.WideShapes Go.ChangeAt Go.RowKit
open Plain
open Go.ChangeMaps (open_string shut_string)
set_option linter.unusedVariables false      -- a walk need not use every 'w<i>' (that an integer argument fits its kind)

theorem own : ownKnob Try.prog.godebug = none := by kernel_rfl

/- The walk: the law's text returns true. -/
set_option maxRecDepth 100000 in
set_option maxHeartbeats 2000000 in
theorem walk (a0 : Int) (a1 : Int) (w0 : (Lit.int .i64 a0).wf = true) (w1 : (Lit.int .i64 a1).wf = true) (w : World) :
    Calls Try.prog 10 #[.int .i64 a0, .int .i64 a1] w fun e w' => e = .returned (.bool true) ∧ Below w.heap.size w w' := by
  have L0 := and_15 a0
  have L1 := and_63 a1
  clear w0 w1
  go_enter Try.func10, Try.ntmps10
  go_wp2_with fail
  refine (awake_any w).mono ?_
  rintro e wa ⟨rfl, O0⟩
  have r31 : 0 ≤ a0 % 16 := by omega
  have r32 : a0 % 16 < 16 := by omega
  have r33 : 0 ≤ a1 % 64 := by omega
  have r34 : a1 % 64 < 64 := by omega
  generalize a0 % 16 = m at *
  generalize a1 % 64 = k at *
  go_wp2_with fail
  refine (new_good false (1 + m) wa (by omega) (by omega)).mono ?_
  rintro e wb ⟨p, bl, bh, rfl, h0, o0, n1, n2, n3⟩
  clear L0 L1
  have hOw := O0.size
  have HB1 := Lib.hid (And.intro n1 (And.intro n2 n3))
  have O1 : Below w.heap.size w wb := (O0.trans o0).below _ (Nat.le_refl _) (by simp)
  go_wp2_with fail
  refine (add_any p bl bh _ 0 wb h0 (by omega) (by omega)).mono ?_
  rintro e wc ⟨rfl, h1, o1⟩
  have O2 : Below w.heap.size w wc := O1.trans (o1.below _ O1.size (by simp; omega))
  go_wp2_with fail
  refine (add_any p bl bh _ 1 wc h1 (by omega) (by omega)).mono ?_
  rintro e wd ⟨rfl, h2, o2⟩
  have O3 : Below w.heap.size w wd := O2.trans (o2.below _ O2.size (by simp; omega))
  have J0 : ∃ S, PJ wd p bl bh S ∧ S.most = 1 + m ∧ (S.held.length : Int) = min ((0 : Nat) : Int) (1 + m) ∧ S.lost = max 0 (((0 : Nat) : Int) - (1 + m)) ∧ chkM (63 - 0) S 0 = true := by
    have hc := chk_most ⟨m.toNat, by omega⟩
    simp only at hc
    have e : ((m.toNat : Int) + 1) = 1 + m := by omega
    rw [e] at hc
    have hf := most_start m r31
    exact ⟨_, h2, hf.1, by rw [hf.2.1]; simp; omega, by rw [hf.2.2]; omega, hc⟩
  have HB2 := Lib.hid (show w.heap.size ≤ p ∧ w.heap.size ≤ bl ∧ w.heap.size ≤ bh from ⟨by omega, by omega, by omega⟩)
  have HJ := Lib.hid J0
  clear h0 o0 h1 o1 h2 o2 O0 O1 O2 n1 n2 n3 hOw HB1 J0
  go_wp2_with fail
  go_loopw [9] (fun i wr => ∃ (t : Nat) (S : J), i = .int .i64 t ∧ (t : Int) ≤ k ∧ PJ wr p bl bh S ∧ S.most = 1 + m ∧ (S.held.length : Int) = min (t : Int) (1 + m) ∧ S.lost = max 0 ((t : Int) - (1 + m)) ∧ chkM (63 - t) S t = true ∧ Below w.heap.size w wr) (fun i _ => 64 - (intOf i).toNat)
  case atStart =>
    obtain ⟨S, hS, hm, hh, hl, hc⟩ := HJ.out
    exact ⟨0, S, rfl, by omega, hS, hm, hh, hl, hc, O3⟩
  case round =>
    clear HJ O3
    obtain ⟨t, S, rfl, ht, hS, hm, hh, hl, hc, hb⟩ := hrel
    by_cases hlt : (t : Int) < k
    · have d0 : decide ((t : Int) < k) = true := by simpa using hlt
      rw [show 63 - t = (63 - (t + 1)) + 1 by omega] at hc
      simp only [chkM, okS, Bool.and_eq_true, decide_eq_true_eq, List.isEmpty_iff] at hc
      obtain ⟨⟨⟨⟨⟨⟨⟨c1, c2⟩, c3⟩, c4⟩, c5⟩, c6⟩, c7⟩, c8⟩ := hc
      have HPut := Lib.hid (fun (q : Int) (hq : q = 2 + 2 * (t : Int)) => put_at (b := false) (e := true) (q := q) (d := ⟨#[101]⟩) (T := putS S 0 (endF t)) (outs := []) (code := 0) hS (link := 0) (by omega) (by omega) c1 (by omega) (by rw [hq]; exact c4) (by rw [hq]; exact c3) (by rw [hq]; rfl))
      rw [hm] at c5 c6 c7
      have hle : ((putS S 0 (endF t)).held.length : Int) ≤ 1 + m := by omega
      have HC := Lib.hid (And.intro c7 (And.intro c5 (And.intro c6 c8)))
      generalize putS S 0 (endF t) = S2 at *
      clear c1 c2 c3 c4 c5 c6 c7 c8 hS hm hh hl
      have d1 : decide (1 + m < (S2.held.length : Int)) = false := by simp; omega
      go_wp2_with fail
      refine (HPut.out _ (by first | rfl | omega)).mono ?_
      rintro e we ⟨ao, cap, rfl, _, _, h3, o3, _⟩
      have hb2 : Below w.heap.size w we := hb.trans (o3.below _ hb.size (by have := HB2.out; simp; omega))
      have hhl := held_any p bl bh S2 we h3
      clear HPut o3 hb
      go_wp2_with (first | (go_at_call 14; refine (num_any _ _).mono ?_; rintro e w' ⟨rfl, rfl⟩) | (go_at_call 23; refine hhl.mono ?_; rintro e w' ⟨rfl, rfl⟩))
      go_roundw
      case rel => exact ⟨t + 1, S2, by go_num, by omega, h3, HC.out.1, by have := HC.out.2.1; omega, by have := HC.out.2.2.1; omega, HC.out.2.2.2, hb2⟩
      case measure => simp [intOf]; omega
    · have d0 : decide ((t : Int) < k) = false := by simpa using hlt
      have hhl := held_any p bl bh S wr hS
      have hll := lost_any p bl bh S wr hS
      by_cases hmk : 1 + m < k
      · have e1 : (S.held.length : Int) = 1 + m := by omega
        have e2 : S.lost = k - (1 + m) := by omega
        have q2 : 0 < k - (1 + m) := by omega
        rw [e1] at hhl
        rw [e2] at hll
        clear hS hm hh hl hc e1 e2
        go_wp2_with (first | (go_at_call 14; refine (num_any _ _).mono ?_; rintro e w' ⟨rfl, rfl⟩) | (go_at_call 23; refine hhl.mono ?_; rintro e w' ⟨rfl, rfl⟩) | (go_at_call 25; refine hll.mono ?_; rintro e w' ⟨rfl, rfl⟩))
        go_ret
        exact ⟨by first | rfl | simp, hb⟩
      · have e1 : (S.held.length : Int) = k := by omega
        have e2 : S.lost = 0 := by omega
        have q2 : ¬ 0 < k - (1 + m) := by omega
        rw [e1] at hhl
        rw [e2] at hll
        clear hS hm hh hl hc e1 e2
        go_wp2_with (first | (go_at_call 14; refine (num_any _ _).mono ?_; rintro e w' ⟨rfl, rfl⟩) | (go_at_call 23; refine hhl.mono ?_; rintro e w' ⟨rfl, rfl⟩) | (go_at_call 25; refine hll.mono ?_; rintro e w' ⟨rfl, rfl⟩))
        go_ret
        exact ⟨by first | rfl | simp, hb⟩

/- The row's step. -/
set_option maxRecDepth 100000 in
theorem lifted (os : Os) (started : os.Started) (H : Type) (enc : TypeId × Value → H) :
    ReturnsInHanded {} Try.checked os 10 .any (Rows.joinMostSpec.pre6 enc Try.prog Try.f10 Rows.joinMostRow.domain false) (Rows.joinMostSpec.post enc Try.prog Try.f10 false true false false) := by
  refine returnsInHanded_of_change (C := Try.checked) own started (by kernel_rfl) Try.func10
    (ChangeSpec.witness6 (enc := enc) (C := Try.checked) false ⟨#[], #[.int .i64 0, .int .i64 0], []⟩ 8 (by kernel_rfl) (by kernel_rfl) (by kernel_rfl) (by kernel_rfl)) ?_
  intro W base args ds gs before hval0 hW hcnd _
  have hval : ∀ (j : Nat) t v, Try.f10.params[j]? = some t → args[j]? = some v → Value.okWide Try.prog W .any base t v := hval0
  have hW' := hW
  obtain ⟨p, q, hA0, hV, rfl, hfz, hnd⟩ := hW
  have hA : DataW.TrodAll enc Try.prog W 0 (fun _ => true) true Try.f10.params.toList args.toList ds p := hA0
  rw [Try.params10] at hA hval
  obtain ⟨v0, vs0, d0, ds0, p0, q0, hargs, rfl, rfl, h0, r0⟩ := trodAll_cons hA
  obtain ⟨v1, vs1, d1, ds1, p1, q1, rfl, rfl, rfl, h1, r1⟩ := trodAll_cons r0
  obtain ⟨rfl, rfl, rfl⟩ := trodAll_nil r1
  obtain rfl : args = #[v0, v1] := by cases args; simp_all
  obtain ⟨rfl, rfl⟩ := trodVars_none hV
  obtain ⟨a0, rfl, rfl, rfl, w0⟩ := open_int Try.underlying3 (hval 0 3 v0 rfl rfl) h0
  obtain ⟨a1, rfl, rfl, rfl, w1⟩ := open_int Try.underlying3 (hval 1 3 v1 rfl rfl) h1
  clear hA0 hval0
  refine (walk a0 a1 w0 w1 W).mono fun e W' ⟨he, hg⟩ => ?_
  subst he
  exact ⟨_, rfl, _, _, _, [], _, [], hW', (trodAll_cons_mk (shut_bool Try.underlying4 _) trodAll_mk0), (trodAll_cons_mk (shut_int Try.underlying3 w0) (trodAll_cons_mk (shut_int Try.underlying3 w1) trodAll_mk0)), rfl, hg.frame _, fun h => by cases h⟩

theorem over : Rows.joinMostRow.holds Try.pinned (OpenSpec.ofChange Rows.joinMostSpec) :=
  OpenClaim.holds_of_wide 10 Try.f10 rfl rfl rfl rfl rfl rfl rfl ⟨rfl, rfl, rfl, rfl, rfl⟩ rfl rfl rfl rfl rfl (by kernel_rfl) Try.func10 (by kernel_rfl)
    (of_decide_eq_true (by kernel_rfl)) (by unfold Func.isWrapper; first | (rw [if_pos (by decide +kernel)]; kernel_rfl) | (rw [if_neg (by decide +kernel)]; exact ⟨rfl, rfl⟩))
    (fun os started H enc _ => lifted os started H enc)

/-- The statement. -/
theorem proved : Rows.JoinMostSaid :=
  over
#print axioms proved
end Go.Proofs.Ytcfgbfabokhjcaa.joinMost

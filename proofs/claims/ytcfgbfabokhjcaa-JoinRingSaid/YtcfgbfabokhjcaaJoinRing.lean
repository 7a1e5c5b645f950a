/- Proved here: withylaw19.JoinRing returns true for every input and leaves its arguments as they were (the given statement Rows.JoinRingSaid). Conditions: none. -/
import Derived.Test.YtcfgbfabokhjcaaRows
import Derived.Test.YtcfgbfabokhjcaaChk
import Derived.Test.YtcfgbfabokhjcaaMask
import Derived.WalkKit
import Derived.Lib.Hide
import Derived.Deep.Cut
import Derived.StillTactics
import Derived.ProofKit
import Derived.OpenShut
import Derived.ShutString
namespace Go.Proofs.Ytcfgbfabokhjcaa.joinRing
open Go.ChangeShapes Go.WideShapes Go.ChangeAt Go.RowKit
open Plain
open Go.ChangeMaps (open_string shut_string)
set_option linter.unusedVariables false      -- a walk need not use every 'w<i>' (that an integer argument fits its kind)

theorem own : ownKnob Try.prog.godebug = none := by kernel_rfl

/- The walk: the law's text returns true. -/
set_option maxRecDepth 100000 in
set_option maxHeartbeats 2000000 in
theorem walk (a0 : Int) (a1 : Bool) (w0 : (Lit.int .i64 a0).wf = true) (w : World) :
    Calls Try.prog 8 #[.int .i64 a0, .bool a1] w fun e w' => e = .returned (.bool true) ∧ Below w.heap.size w w' := by
  have L0 := and_31 a0
  clear w0
  cases a1
  · go_enter Try.func8, Try.ntmps8
    go_wp2_with fail
    refine (awake_any w).mono ?_
    rintro e wa ⟨rfl, O0⟩
    have r31 : 0 ≤ a0 % 32 := by omega
    have r32 : a0 % 32 < 32 := by omega
    generalize a0 % 32 = q at *
    go_wp2_with fail
    refine (new_good false 32 wa (by omega) (by omega)).mono ?_
    rintro e wb ⟨p, bl, bh, rfl, h0, o0, n1, n2, n3⟩
    clear L0
    have hOw := O0.size
    have HB1 := Lib.hid (And.intro n1 (And.intro n2 n3))
    have O1 : Below w.heap.size w wb := (O0.trans o0).below _ (Nat.le_refl _) (by simp)
    go_wp2_with fail
    refine (add_any p bl bh _ 0 wb h0 (by omega) (by omega)).mono ?_
    rintro e wc ⟨rfl, h1, o1⟩
    have O2 : Below w.heap.size w wc := O1.trans (o1.below _ O1.size (by simp; omega))
    have J0 : ∃ S, PJ wc p bl bh S ∧ S.R = 16777216 ∧ chkJ (3 - 0) S 0 = true := ⟨_, h1, rfl, chk_ring.2⟩
    have HB2 := Lib.hid (show w.heap.size ≤ p ∧ w.heap.size ≤ bl ∧ w.heap.size ≤ bh from ⟨by omega, by omega, by omega⟩)
    clear h0 o0 h1 o1 O0 O1 n1 n2 n3 hOw HB1
    go_wp2_with fail
    go_loopw [9, 10] (fun x i wr => ∃ (t : Nat) (a : Int) (S : J), i = .int .i64 t ∧ x = .int .i64 a ∧ t ≤ 3 ∧ 0 ≤ a ∧ a ≤ t * 8388608 ∧ PJ wr p bl bh S ∧ S.R = 16777216 ∧ chkJ (3 - t) S a = true ∧ Below w.heap.size w wr) (fun _ i _ => 3 - (intOf i).toNat)
    case atStart =>
      obtain ⟨S, hS, hR, hc⟩ := J0
      exact ⟨0, 0, S, rfl, rfl, by omega, by omega, by omega, hS, hR, hc, O2⟩
    case round =>
      clear J0 O2
      obtain ⟨t, a, S, rfl, rfl, ht, a1, a2, hS, hR, hc, hb⟩ := hrel
      by_cases hlt : t < 3
      · have d0 : decide ((t : Int) < 3) = true := by simp; omega
        rw [show 3 - t = (3 - (t + 1)) + 1 by omega] at hc
        simp only [chkJ, okS, Bool.and_eq_true, decide_eq_true_eq] at hc
        obtain ⟨⟨⟨c1, c2⟩, c3⟩, c4⟩ := hc
        have HPut := Lib.hid (fun (q : Int) (hq : q = (a + 8388608 - 2) % 16777216) => put_at (b := true) (e := true) (q := q) (d := ⟨#[106]⟩) (T := putS S 0 (jumpF S.R (a + S.R / 2 - 2))) hS (link := 0) (by omega) (by omega) c1 (by omega) rfl rfl (by rw [hq, hR]; rfl))
        have e1 : a + S.R / 2 - 2 = a + 8388608 - 2 := by rw [hR]; rfl
        rw [e1] at c4 c3 HPut
        have HC4 := Lib.hid c4
        have HC3 := Lib.hid (c3.trans hR)
        clear c1 c2 c3 c4 hS e1 hR
        go_wp2_with fail
        refine (HPut.out _ (by first | rfl | omega)).mono ?_
        rintro e wd ⟨ao, cap, rfl, _, _, h2, o2, _⟩
        have hb2 : Below w.heap.size w wd := hb.trans (o2.below _ hb.size (by have := HB2.out; simp; omega))
        clear HPut o2 hb
        go_wp2_with fail
        go_roundw
        case rel => exact ⟨t + 1, a + 8388608 - 2, _, by go_num, by first | rfl | (congr 1; omega), by omega, by omega, by omega, h2, HC3.out, HC4.out, hb2⟩
        case measure => simp [intOf]; omega
      · have d0 : decide ((t : Int) < 3) = false := by simp; omega
        rw [show 3 - t = 0 by omega] at hc
        simp only [chkJ, Bool.and_eq_true, decide_eq_true_eq] at hc
        obtain ⟨c1, c2⟩ := hc
        go_wp2_with fail
        have HCR := Lib.hid (And.intro hR (And.intro c1 c2))
        clear hR c1 c2
        go_loopw [9, 11, 12] (fun x d i wr => ∃ (t : Nat) (a : Int) (S : J), i = .int .i64 t ∧ x = .int .i64 a ∧ d = .int .i64 t ∧ (t : Int) ≤ 4 + q ∧ 0 ≤ a ∧ a ≤ 30000000 + t ∧ PJ wr p bl bh S ∧ S.R = 16777216 ∧ S.held.length = 0 ∧ chkR (35 - t) S a = true ∧ Below w.heap.size w wr) (fun _ _ i _ => 40 - (intOf i).toNat)
        case atStart => exact ⟨0, a, S, rfl, rfl, rfl, by omega, a1, by omega, hS, HCR.out.1, HCR.out.2.1, HCR.out.2.2, hb⟩
        case round =>
          clear hS hb HCR a1 a2
          obtain ⟨t, a, S, rfl, rfl, rfl, ht, a1, a2, hS, hR, hh, hc, hb⟩ := hrel
          by_cases hlt : (t : Int) < 4 + q
          · have d0 : decide ((t : Int) < 4 + q) = true := by simpa using hlt
            rw [show 35 - t = (35 - (t + 1)) + 1 by omega] at hc
            simp only [chkR, okS, Bool.and_eq_true, decide_eq_true_eq] at hc
            obtain ⟨⟨⟨⟨⟨⟨c1, c2⟩, c3⟩, c4⟩, c5⟩, c6⟩, c7⟩ := hc
            rw [hR] at c3 c4 c5 c7
            have HPut := Lib.hid (fun (q : Int) (hq : q = (a + 1) % 16777216) => put_at (b := true) (e := true) (q := q) (d := ⟨#[120]⟩) (T := putS S 0 (ringF 16777216 (a + 1))) (outs := putO S 0 (ringF 16777216 (a + 1))) (code := 0) hS (link := 0) (by omega) (by omega) c1 (by omega) (by rw [hq]; rfl) (by rw [hq]; exact c3) (by rw [hq]; rfl))
            rw [hR] at c6
            have HC := Lib.hid (And.intro c6 (And.intro c5 c7))
            generalize putS S 0 (ringF 16777216 (a + 1)) = S2 at *
            generalize putO S 0 (ringF 16777216 (a + 1)) = outs at *
            clear c1 c2 c3 c5 c6 c7 hS hR hh
            go_wp2_with fail
            refine (HPut.out _ (by first | rfl | omega)).mono ?_
            rw [c4]
            rintro e wd ⟨ao, cap, rfl, _, _, h2, o2, _⟩
            have hb2 : Below w.heap.size w wd := hb.trans (o2.below _ hb.size (by have := HB2.out; simp; omega))
            clear HPut o2 hb c4
            go_wp2_with (go_at_call 14; refine (num_any _ _).mono ?_; rintro e w' ⟨rfl, rfl⟩)
            go_roundw
            case rel => exact ⟨t + 1, a + 1, S2, by go_num, rfl, by go_num, by omega, by omega, by omega, h2, HC.out.1, HC.out.2.1, HC.out.2.2, hb2⟩
            case measure => simp [intOf]; omega
          · have d0 : decide ((t : Int) < 4 + q) = false := by simpa using hlt
            have e0 : ((t : Int) == 4 + q) = true := by simp; omega
            have hl := held_any p bl bh S wr hS
            rw [hh] at hl
            clear hS hR hh hc
            go_wp2_with (first | (go_at_call 14; refine (num_any _ _).mono ?_; rintro e w' ⟨rfl, rfl⟩) | (go_at_call 23; refine hl.mono ?_; rintro e w' ⟨rfl, rfl⟩))
            go_ret
            exact ⟨by first | rfl | simp, hb⟩
  · go_enter Try.func8, Try.ntmps8
    go_wp2_with fail
    refine (awake_any w).mono ?_
    rintro e wa ⟨rfl, O0⟩
    have r31 : 0 ≤ a0 % 32 := by omega
    have r32 : a0 % 32 < 32 := by omega
    generalize a0 % 32 = q at *
    go_wp2_with fail
    refine (new_good true 32 wa (by omega) (by omega)).mono ?_
    rintro e wb ⟨p, bl, bh, rfl, h0, o0, n1, n2, n3⟩
    clear L0
    have hOw := O0.size
    have HB1 := Lib.hid (And.intro n1 (And.intro n2 n3))
    have O1 : Below w.heap.size w wb := (O0.trans o0).below _ (Nat.le_refl _) (by simp)
    go_wp2_with fail
    refine (add_any p bl bh _ 0 wb h0 (by omega) (by omega)).mono ?_
    rintro e wc ⟨rfl, h1, o1⟩
    have O2 : Below w.heap.size w wc := O1.trans (o1.below _ O1.size (by simp; omega))
    have J0 : ∃ S, PJ wc p bl bh S ∧ S.R = 4096 ∧ chkJ (3 - 0) S 0 = true := ⟨_, h1, rfl, chk_ring.1⟩
    have HB2 := Lib.hid (show w.heap.size ≤ p ∧ w.heap.size ≤ bl ∧ w.heap.size ≤ bh from ⟨by omega, by omega, by omega⟩)
    clear h0 o0 h1 o1 O0 O1 n1 n2 n3 hOw HB1
    go_wp2_with fail
    go_loopw [9, 10] (fun x i wr => ∃ (t : Nat) (a : Int) (S : J), i = .int .i64 t ∧ x = .int .i64 a ∧ t ≤ 3 ∧ 0 ≤ a ∧ a ≤ t * 8388608 ∧ PJ wr p bl bh S ∧ S.R = 4096 ∧ chkJ (3 - t) S a = true ∧ Below w.heap.size w wr) (fun _ i _ => 3 - (intOf i).toNat)
    case atStart =>
      obtain ⟨S, hS, hR, hc⟩ := J0
      exact ⟨0, 0, S, rfl, rfl, by omega, by omega, by omega, hS, hR, hc, O2⟩
    case round =>
      clear J0 O2
      obtain ⟨t, a, S, rfl, rfl, ht, a1, a2, hS, hR, hc, hb⟩ := hrel
      by_cases hlt : t < 3
      · have d0 : decide ((t : Int) < 3) = true := by simp; omega
        rw [show 3 - t = (3 - (t + 1)) + 1 by omega] at hc
        simp only [chkJ, okS, Bool.and_eq_true, decide_eq_true_eq] at hc
        obtain ⟨⟨⟨c1, c2⟩, c3⟩, c4⟩ := hc
        have HPut := Lib.hid (fun (q : Int) (hq : q = (a + 2048 - 2) % 4096) => put_at (b := true) (e := true) (q := q) (d := ⟨#[106]⟩) (T := putS S 0 (jumpF S.R (a + S.R / 2 - 2))) hS (link := 0) (by omega) (by omega) c1 (by omega) rfl rfl (by rw [hq, hR]; rfl))
        have e1 : a + S.R / 2 - 2 = a + 2048 - 2 := by rw [hR]; rfl
        rw [e1] at c4 c3 HPut
        have HC4 := Lib.hid c4
        have HC3 := Lib.hid (c3.trans hR)
        clear c1 c2 c3 c4 hS e1 hR
        go_wp2_with fail
        refine (HPut.out _ (by first | rfl | omega)).mono ?_
        rintro e wd ⟨ao, cap, rfl, _, _, h2, o2, _⟩
        have hb2 : Below w.heap.size w wd := hb.trans (o2.below _ hb.size (by have := HB2.out; simp; omega))
        clear HPut o2 hb
        go_wp2_with fail
        go_roundw
        case rel => exact ⟨t + 1, a + 2048 - 2, _, by go_num, by first | rfl | (congr 1; omega), by omega, by omega, by omega, h2, HC3.out, HC4.out, hb2⟩
        case measure => simp [intOf]; omega
      · have d0 : decide ((t : Int) < 3) = false := by simp; omega
        rw [show 3 - t = 0 by omega] at hc
        simp only [chkJ, Bool.and_eq_true, decide_eq_true_eq] at hc
        obtain ⟨c1, c2⟩ := hc
        go_wp2_with fail
        have HCR := Lib.hid (And.intro hR (And.intro c1 c2))
        clear hR c1 c2
        go_loopw [9, 11, 12] (fun x d i wr => ∃ (t : Nat) (a : Int) (S : J), i = .int .i64 t ∧ x = .int .i64 a ∧ d = .int .i64 t ∧ (t : Int) ≤ 4 + q ∧ 0 ≤ a ∧ a ≤ 30000000 + t ∧ PJ wr p bl bh S ∧ S.R = 4096 ∧ S.held.length = 0 ∧ chkR (35 - t) S a = true ∧ Below w.heap.size w wr) (fun _ _ i _ => 40 - (intOf i).toNat)
        case atStart => exact ⟨0, a, S, rfl, rfl, rfl, by omega, a1, by omega, hS, HCR.out.1, HCR.out.2.1, HCR.out.2.2, hb⟩
        case round =>
          clear hS hb HCR a1 a2
          obtain ⟨t, a, S, rfl, rfl, rfl, ht, a1, a2, hS, hR, hh, hc, hb⟩ := hrel
          by_cases hlt : (t : Int) < 4 + q
          · have d0 : decide ((t : Int) < 4 + q) = true := by simpa using hlt
            rw [show 35 - t = (35 - (t + 1)) + 1 by omega] at hc
            simp only [chkR, okS, Bool.and_eq_true, decide_eq_true_eq] at hc
            obtain ⟨⟨⟨⟨⟨⟨c1, c2⟩, c3⟩, c4⟩, c5⟩, c6⟩, c7⟩ := hc
            rw [hR] at c3 c4 c5 c7
            have HPut := Lib.hid (fun (q : Int) (hq : q = (a + 1) % 4096) => put_at (b := true) (e := true) (q := q) (d := ⟨#[120]⟩) (T := putS S 0 (ringF 4096 (a + 1))) (outs := putO S 0 (ringF 4096 (a + 1))) (code := 0) hS (link := 0) (by omega) (by omega) c1 (by omega) (by rw [hq]; rfl) (by rw [hq]; exact c3) (by rw [hq]; rfl))
            rw [hR] at c6
            have HC := Lib.hid (And.intro c6 (And.intro c5 c7))
            generalize putS S 0 (ringF 4096 (a + 1)) = S2 at *
            generalize putO S 0 (ringF 4096 (a + 1)) = outs at *
            clear c1 c2 c3 c5 c6 c7 hS hR hh
            go_wp2_with fail
            refine (HPut.out _ (by first | rfl | omega)).mono ?_
            rw [c4]
            rintro e wd ⟨ao, cap, rfl, _, _, h2, o2, _⟩
            have hb2 : Below w.heap.size w wd := hb.trans (o2.below _ hb.size (by have := HB2.out; simp; omega))
            clear HPut o2 hb c4
            go_wp2_with (go_at_call 14; refine (num_any _ _).mono ?_; rintro e w' ⟨rfl, rfl⟩)
            go_roundw
            case rel => exact ⟨t + 1, a + 1, S2, by go_num, rfl, by go_num, by omega, by omega, by omega, h2, HC.out.1, HC.out.2.1, HC.out.2.2, hb2⟩
            case measure => simp [intOf]; omega
          · have d0 : decide ((t : Int) < 4 + q) = false := by simpa using hlt
            have e0 : ((t : Int) == 4 + q) = true := by simp; omega
            have hl := held_any p bl bh S wr hS
            rw [hh] at hl
            clear hS hR hh hc
            go_wp2_with (first | (go_at_call 14; refine (num_any _ _).mono ?_; rintro e w' ⟨rfl, rfl⟩) | (go_at_call 23; refine hl.mono ?_; rintro e w' ⟨rfl, rfl⟩))
            go_ret
            exact ⟨by first | rfl | simp, hb⟩

/- The row's step. -/
set_option maxRecDepth 100000 in
theorem lifted (os : Os) (started : os.Started) (H : Type) (enc : TypeId × Value → H) :
    ReturnsInHanded {} Try.checked os 8 .any (Rows.joinRingSpec.pre6 enc Try.prog Try.f8 Rows.joinRingRow.domain false) (Rows.joinRingSpec.post enc Try.prog Try.f8 false true false false) := by
  refine returnsInHanded_of_change (C := Try.checked) own started (by kernel_rfl) Try.func8
    (ChangeSpec.witness6 (enc := enc) (C := Try.checked) false ⟨#[], #[.int .i64 0, .bool false], []⟩ 8 (by kernel_rfl) (by kernel_rfl) (by kernel_rfl) (by kernel_rfl)) ?_
  intro W base args ds gs before hval0 hW hcnd _
  have hval : ∀ (j : Nat) t v, Try.f8.params[j]? = some t → args[j]? = some v → Value.okWide Try.prog W .any base t v := hval0
  have hW' := hW
  obtain ⟨p, q, hA0, hV, rfl, hfz, hnd⟩ := hW
  have hA : DataW.TrodAll enc Try.prog W 0 (fun _ => true) true Try.f8.params.toList args.toList ds p := hA0
  rw [Try.params8] at hA hval
  obtain ⟨v0, vs0, d0, ds0, p0, q0, hargs, rfl, rfl, h0, r0⟩ := trodAll_cons hA
  obtain ⟨v1, vs1, d1, ds1, p1, q1, rfl, rfl, rfl, h1, r1⟩ := trodAll_cons r0
  obtain ⟨rfl, rfl, rfl⟩ := trodAll_nil r1
  obtain rfl : args = #[v0, v1] := by cases args; simp_all
  obtain ⟨rfl, rfl⟩ := trodVars_none hV
  obtain ⟨a0, rfl, rfl, rfl, w0⟩ := open_int Try.underlying3 (hval 0 3 v0 rfl rfl) h0
  obtain ⟨a1, rfl, rfl, rfl⟩ := open_bool Try.underlying4 (hval 1 4 v1 rfl rfl) h1
  clear hA0 hval0
  refine (walk a0 a1 w0 W).mono fun e W' ⟨he, hg⟩ => ?_
  subst he
  exact ⟨_, rfl, _, _, _, [], _, [], hW', (trodAll_cons_mk (shut_bool Try.underlying4 _) trodAll_mk0), (trodAll_cons_mk (shut_int Try.underlying3 w0) (trodAll_cons_mk (shut_bool Try.underlying4 _) trodAll_mk0)), rfl, hg.frame _, fun h => by cases h⟩

theorem over : Rows.joinRingRow.holds Try.pinned (OpenSpec.ofChange Rows.joinRingSpec) :=
  OpenClaim.holds_of_wide 8 Try.f8 rfl rfl rfl rfl rfl rfl rfl ⟨rfl, rfl, rfl, rfl, rfl⟩ rfl rfl rfl rfl rfl (by kernel_rfl) Try.func8 (by kernel_rfl)
    (of_decide_eq_true (by kernel_rfl)) (by unfold Func.isWrapper; first | (rw [if_pos (by decide +kernel)]; kernel_rfl) | (rw [if_neg (by decide +kernel)]; exact ⟨rfl, rfl⟩))
    (fun os started H enc _ => lifted os started H enc)

/-- The statement. -/
theorem proved : Rows.JoinRingSaid :=
  over
#print axioms proved
end Go.Proofs.Ytcfgbfabokhjcaa.joinRing

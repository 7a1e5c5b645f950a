/- Proved here: withylaw19.JoinOld returns true for every input and leaves its arguments as they were (the given statement Rows.JoinOldSaid). Conditions: none. -/
import Derived.Test.YtcfgbfabokhjcaaRows
import Derived.Test.YtcfgbfabokhjcaaWhole
import Derived.Test.YtcfgbfabokhjcaaMask
import Derived.WalkKit
import Derived.Lib.Hide
import Derived.Deep.Cut
import Derived.StillTactics
import Derived.ProofKit
import Derived.OpenShut
import Derived.ShutString
namespace Go.Proofs.Ytcfgbfabokhjcaa.joinOld
open Go.ChangeShapes Go.WideShapes Go.ChangeAt Go.RowKit
open Plain
open Go.ChangeMaps (open_string shut_string)
set_option linter.unusedVariables false      -- a walk need not use every 'w<i>' (that an integer argument fits its kind)

theorem own : ownKnob Try.prog.godebug = none := by kernel_rfl

/- The walk: the law's text returns true. -/
set_option maxRecDepth 100000 in
set_option maxHeartbeats 2000000 in
theorem walk (a0 : Int) (a1 : Int) (w0 : (Lit.int .i64 a0).wf = true) (w1 : (Lit.int .i64 a1).wf = true) (w : World) :
    Calls Try.prog 7 #[.int .i64 a0, .int .i64 a1] w fun e w' => e = .returned (.bool true) ∧ Below w.heap.size w w' := by
  have L0 := and_31 a0
  have U1 := u64_nonneg a1
  clear w0 w1
  go_enter Try.func7, Try.ntmps7
  go_wp2_with fail
  refine (awake_any w).mono ?_
  rintro e wa ⟨rfl, O0⟩
  have r31 : 0 ≤ a0 % 32 := by omega
  have r32 : a0 % 32 < 32 := by omega
  generalize a0 % 32 = m at *
  go_wp2_with fail
  refine (new_good true 64 wa (by omega) (by omega)).mono ?_
  rintro e wb ⟨p, bl, bh, rfl, h0, o0, n1, n2, n3⟩
  clear L0
  have hOw := O0.size
  have HB1 := Lib.hid (And.intro n1 (And.intro n2 n3))
  have O1 : Below w.heap.size w wb := (O0.trans o0).below _ (Nat.le_refl _) (by simp)
  go_wp2_with fail
  refine (add_any p bl bh _ 0 wb h0 (by omega) (by omega)).mono ?_
  rintro e wc ⟨rfl, h1, o1⟩
  have O2 : Below w.heap.size w wc := O1.trans (o1.below _ O1.size (by simp; omega))
  have J0 : ∃ S, PJ wc p bl bh S ∧ chkO (32 - 0) S 0 = true := ⟨_, h1, chk_old⟩
  have HB2 := Lib.hid (show w.heap.size ≤ p ∧ w.heap.size ≤ bl ∧ w.heap.size ≤ bh from ⟨by omega, by omega, by omega⟩)
  have HJ := Lib.hid J0
  clear h0 o0 h1 o1 O0 O1 n1 n2 n3 hOw HB1 J0
  go_wp2_with fail
  go_loopw [8] (fun i wr => ∃ (t : Nat) (S : J), i = .int .i64 t ∧ (t : Int) ≤ 1 + m ∧ PJ wr p bl bh S ∧ chkO (32 - t) S t = true ∧ (1 ≤ t → (List.range t).all (finO S t) = true) ∧ Below w.heap.size w wr) (fun i _ => 64 - (intOf i).toNat)
  case atStart =>
    obtain ⟨S, hS, hc⟩ := HJ.out
    exact ⟨0, S, rfl, by omega, hS, hc, by omega, O2⟩
  case round =>
    clear HJ O2
    obtain ⟨t, S, rfl, ht, hS, hc, hf, hb⟩ := hrel
    by_cases hlt : (t : Int) < 1 + m
    · have d0 : decide ((t : Int) < 1 + m) = true := by simpa using hlt
      rw [show 32 - t = (32 - (t + 1)) + 1 by omega] at hc
      simp only [chkO, okS, Bool.and_eq_true, decide_eq_true_eq] at hc
      obtain ⟨⟨⟨⟨⟨c1, c2⟩, c3⟩, c4⟩, c5⟩, c6⟩ := hc
      have HPut := Lib.hid (fun wx (ox : Only [] wr wx) => put_at (b := true) (e := true) (q := (t : Int) % 4096) (d := ⟨#[120]⟩) (T := putS S 0 (wholeF t ⟨#[120]⟩)) (outs := putO S 0 (wholeF t ⟨#[120]⟩)) (code := 0) (hS.only ox (by simp) (by simp) (by simp)) (link := 0) (by omega) (by omega) c1 (by omega) rfl c3 rfl)
      have HC := Lib.hid (And.intro c6 c5)
      generalize putS S 0 (wholeF t ⟨#[120]⟩) = S2 at *
      generalize putO S 0 (wholeF t ⟨#[120]⟩) = outs at *
      clear c1 c2 c3 c5 c6 hS hf
      go_wp2_with fail
      refine (whole_any _ _ _).mono ?_
      rintro e wx ⟨rfl, ox⟩
      have hb1 : Below w.heap.size w wx := hb.trans (ox.below _ hb.size (by simp))
      have HP := Lib.hid (HPut.out wx ox)
      clear HPut ox hb
      go_wp2_with fail
      refine HP.out.mono ?_
      rw [c4]
      rintro e we ⟨ao, cap, rfl, _, _, h3, o3, _⟩
      have hb2 : Below w.heap.size w we := hb1.trans (o3.below _ hb1.size (by have := HB2.out; simp; omega))
      clear HP o3 hb1 c4
      go_wp2_with (go_at_call 14; refine (num_any _ _).mono ?_; rintro e w' ⟨rfl, rfl⟩)
      go_roundw
      case rel => exact ⟨t + 1, S2, by go_num, by omega, h3, HC.out.1, fun _ => HC.out.2, hb2⟩
      case measure => simp [intOf]; omega
    · have d0 : decide ((t : Int) < 1 + m) = false := by simpa using hlt
      obtain ⟨l, hl⟩ : ∃ l, (IntKind.u64.wrap a1).tmod (1 + m) = l := ⟨_, rfl⟩
      have hl' : l = IntKind.u64.wrap a1 % (1 + m) := by rw [← hl]; exact Int.tmod_eq_emod_of_nonneg U1
      have r21 := Int.emod_nonneg (IntKind.u64.wrap a1) (show 1 + m ≠ 0 by omega)
      have r22 := Int.emod_lt_of_pos (IntKind.u64.wrap a1) (show 0 < 1 + m by omega)
      rw [← hl'] at r21 r22
      clear hl'
      have hf1 := List.all_eq_true.1 (hf (by omega)) l.toNat (List.mem_range.2 (by omega))
      have el : ((l.toNat : Nat) : Int) = l := by omega
      have et : (t : Int) = 1 + m := by omega
      simp only [finO, okS, Bool.and_eq_true, decide_eq_true_eq, List.isEmpty_iff, el, et] at hf1
      obtain ⟨⟨⟨⟨⟨⟨⟨⟨⟨c1, c1'⟩, c2, c2'⟩, c3, c3'⟩, c4, c4'⟩, c5⟩, c6⟩, c7⟩, c8⟩, c9⟩ := hf1
      have HP1 := Lib.hid (fun wx (ox : Only [] wr wx) => put_at (b := true) (e := true) (q := l % 4096) (d := ⟨#[121]⟩) (T := oldT1 S l) (outs := []) (code := 0) (hS.only ox (by simp) (by simp) (by simp)) (link := 0) (by omega) (by omega) c1 (by omega) c6 c5 rfl)
      have HP2 := Lib.hid (fun wx (h : PJ wx p bl bh (oldT1 S l)) => put_at (b := true) (e := false) (q := 1 + m) (d := ⟨#[97]⟩) (T := oldT2 S l (1 + m)) h (link := 0) (by omega) (by omega) c2 (by omega) rfl rfl rfl)
      have HP3 := Lib.hid (fun wx (h : PJ wx p bl bh (oldT2 S l (1 + m))) => put_at (b := true) (e := false) (q := 1 + m) (d := ⟨#[98]⟩) (T := oldT3 S l (1 + m)) h (link := 0) (by omega) (by omega) c3 (by omega) rfl rfl rfl)
      have HP4 := Lib.hid (fun wx (h : PJ wx p bl bh (oldT3 S l (1 + m))) => put_at (b := false) (e := true) (q := 1 + m + 1) (d := ⟨#[99]⟩) (T := oldT4 S l (1 + m)) (outs := [⟨#[97, 99]⟩]) (code := 0) h (link := 0) (by omega) (by omega) c4 (by omega) c8 c7 rfl)
      have HL := Lib.hid (fun wx (h : PJ wx p bl bh (oldT4 S l (1 + m))) => c9 ▸ lost_any p bl bh _ wx h)
      clear c1 c2 c3 c4 c5 c6 c7 c8 c9 c1' c2' c3' c4' hf hc et el hS
      generalize oldT4 S l (1 + m) = S4 at *
      generalize oldT3 S l (1 + m) = S3 at *
      generalize oldT2 S l (1 + m) = S2 at *
      generalize oldT1 S l = S1 at *
      go_wp2_with fail
      refine (whole_any _ _ _).mono ?_
      rintro e wx ⟨rfl, ox⟩
      have hb1 : Below w.heap.size w wx := hb.trans (ox.below _ hb.size (by simp))
      have HP := Lib.hid (HP1.out wx ox)
      clear HP1 ox hb hl
      go_wp2_with fail
      refine HP.out.mono ?_
      rintro e w1 ⟨ao1, cap1, rfl, _, _, h1, o1, _⟩
      have hb2 : Below w.heap.size w w1 := hb1.trans (o1.below _ hb1.size (by have := HB2.out; simp; omega))
      clear HP o1 hb1
      go_wp2_with fail
      refine (HP2.out _ h1).mono ?_
      rintro e w2 ⟨ao2, cap2, rfl, _, _, h2, o2, _⟩
      have hb3 : Below w.heap.size w w2 := hb2.trans (o2.below _ hb2.size (by have := HB2.out; simp; omega))
      clear HP2 o2 hb2 h1
      go_wp2_with fail
      refine (HP3.out _ h2).mono ?_
      rintro e w3 ⟨ao3, cap3, rfl, _, _, h3, o3, _⟩
      have hb4 : Below w.heap.size w w3 := hb3.trans (o3.below _ hb3.size (by have := HB2.out; simp; omega))
      clear HP3 o3 hb3 h2
      go_wp2_with fail
      refine (HP4.out _ h3).mono ?_
      rintro e w4 ⟨ao4, cap4, rfl, sl4, _, h4, o4, _⟩
      have hb5 : Below w.heap.size w w4 := hb4.trans (o4.below _ hb4.size (by have := HB2.out; simp; omega))
      have hll := HL.out _ h4
      have sl5 := sl4.only ((Only.refl [] w4).alloc (.cells #[.string ⟨#[97, 99]⟩] 9)) (by simp)
      have sl6 := sl_laid w4 #[.string ⟨#[97, 99]⟩] 9 1 1 rfl (by unfold maxLen; omega)
      have HS := Lib.hid (same_texts _ _ 1 _ _ [⟨#[97, 99]⟩] _ rfl (by omega) sl5 sl6)
      clear HP4 o4 hb4 h3 h4 HL sl4 sl5 sl6
      go_wp2_with (first | (go_at_call 14; refine (num_any _ _).mono ?_; rintro e w' ⟨rfl, rfl⟩) | (go_at_call 25; refine hll.mono ?_; rintro e w' ⟨rfl, rfl⟩))
      refine HS.out.mono ?_
      rintro e w5 ⟨rfl, o5⟩
      have hb6 : Below w.heap.size w w5 := (hb5.alloc hb5.size _).trans (o5.below _ (Nat.le_trans hb5.size (by simp)) (by simp))
      clear HS o5 hb5
      go_wp2_with fail
      go_ret
      exact ⟨by first | rfl | simp, hb6⟩

/- The row's step. -/
set_option maxRecDepth 100000 in
theorem lifted (os : Os) (started : os.Started) (H : Type) (enc : TypeId × Value → H) :
    ReturnsInHanded {} Try.checked os 7 .any (Rows.joinOldSpec.pre6 enc Try.prog Try.f7 Rows.joinOldRow.domain false) (Rows.joinOldSpec.post enc Try.prog Try.f7 false true false false) := by
  refine returnsInHanded_of_change (C := Try.checked) own started (by kernel_rfl) Try.func7
    (ChangeSpec.witness6 (enc := enc) (C := Try.checked) false ⟨#[], #[.int .i64 0, .int .i64 0], []⟩ 8 (by kernel_rfl) (by kernel_rfl) (by kernel_rfl) (by kernel_rfl)) ?_
  intro W base args ds gs before hval0 hW hcnd _
  have hval : ∀ (j : Nat) t v, Try.f7.params[j]? = some t → args[j]? = some v → Value.okWide Try.prog W .any base t v := hval0
  have hW' := hW
  obtain ⟨p, q, hA0, hV, rfl, hfz, hnd⟩ := hW
  have hA : DataW.TrodAll enc Try.prog W 0 (fun _ => true) true Try.f7.params.toList args.toList ds p := hA0
  rw [Try.params7] at hA hval
  obtain ⟨v0, vs0, d0, ds0, p0, q0, hargs, rfl, rfl, h0, r0⟩ := trodAll_cons hA
  obtain ⟨v1, vs1, d1, ds1, p1, q1, rfl, rfl, rfl, h1, r1⟩ := trodAll_cons r0
  obtain ⟨rfl, rfl, rfl⟩ := trodAll_nil r1
  obtain rfl : args = #[v0, v1] := by cases args; simp_all
  obtain ⟨rfl, rfl⟩ := trodVars_none hV
  obtain ⟨a0, rfl, rfl, rfl, w0⟩ := open_int Try.underlying3 (hval 0 3 v0 rfl rfl) h0
  obtain ⟨a1, rfl, rfl, rfl, w1⟩ := open_int Try.underlying3 (hval 1 3 v1 rfl rfl) h1
  clear hA0 hval0
  refine (walk a0 a1 w0 w1 W).mono fun e W' ⟨he, hg⟩ => ?_
  subst he
  exact ⟨_, rfl, _, _, _, [], _, [], hW', (trodAll_cons_mk (shut_bool Try.underlying4 _) trodAll_mk0), (trodAll_cons_mk (shut_int Try.underlying3 w0) (trodAll_cons_mk (shut_int Try.underlying3 w1) trodAll_mk0)), rfl, hg.frame _, fun h => by cases h⟩

theorem over : Rows.joinOldRow.holds Try.pinned (OpenSpec.ofChange Rows.joinOldSpec) :=
  OpenClaim.holds_of_wide 7 Try.f7 rfl rfl rfl rfl rfl rfl rfl ⟨rfl, rfl, rfl, rfl, rfl⟩ rfl rfl rfl rfl rfl (by kernel_rfl) Try.func7 (by kernel_rfl)
    (of_decide_eq_true (by kernel_rfl)) (by unfold Func.isWrapper; first | (rw [if_pos (by decide +kernel)]; kernel_rfl) | (rw [if_neg (by decide +kernel)]; exact ⟨rfl, rfl⟩))
    (fun os started H enc _ => lifted os started H enc)

/-- The statement. -/
theorem proved : Rows.JoinOldSaid :=
  over
#print axioms proved
end Go.Proofs.Ytcfgbfabokhjcaa.joinOld

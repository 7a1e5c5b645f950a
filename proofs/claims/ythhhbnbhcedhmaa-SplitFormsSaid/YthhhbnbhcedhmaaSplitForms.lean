/- Proved here: withylaw18.SplitForms returns true for every input and leaves its arguments as they were (the given statement Rows.SplitFormsSaid). Conditions: none. -/
import Derived.Test.YthhhbnbhcedhmaaRows
import Derived.Test.YthhhbnbhcedhmaaAwake
import Derived.Test.YthhhbnbhcedhmaaMask
import Derived.Test.YthhhbnbhcedhmaaBase2
import Derived.WalkKit
import Derived.ProofKit
import Derived.OpenShut
import Derived.ShutString
namespace Go.Proofs.Ythhhbnbhcedhmaa.splitForms
open Go.ChangeShapes Go.WideShapes Go.ChangeAt Go.RowKit
open Plain
open Go.ChangeMaps (open_string shut_string)
set_option linter.unusedVariables false      -- a walk need not use every 'w<i>' (that an integer argument fits its kind)

theorem own : ownKnob Try.prog.godebug = none := by kernel_rfl

/-- string(make([]byte, k)): a string of k bytes. -/
theorem made (w : World) (k : Int) (h0 : 0 ≤ k) (h1 : k ≤ 2047) : ∃ wb s, (Instr.makeSlice 40 (.int .i64 k) (.int .i64 k)).run Try.prog w = .ok (.slice (some ⟨w.heap.size, 0, none⟩) k.toNat k.toNat) wb ∧
    (convert 40 9 (.slice (some ⟨w.heap.size, 0, none⟩) k.toNat k.toNat)).run Try.prog wb = .ok (.string s) wb ∧ s.size = k.toNat ∧ Only [] w wb := by
  obtain ⟨i, hi, hz, hs, hb⟩ := info_parts (P := Try.prog) (e := 5) (z := .int .u8 0) (size := 1) (bytes := 1) (by kernel_rfl)
  have hr := run_make (P := Try.prog) w 40 5 i _ Try.underlying40 hi hz .i64 .i64 k k h0 (Int.le_refl _) (by rw [hb]; omega) (by omega)
  rw [hs, Nat.mul_one] at hr
  refine ⟨_, strOfNums (List.replicate k.toNat 0), hr, ?_, by simp [strOfNums, ByteArray.size], (Only.refl _ _).alloc _⟩
  refine run_convert_bytes_arg _ 40 5 Try.underlying40 (by kernel_rfl) _ 0 _ _ (List.replicate k.toNat 0) (by simp) (fun j hj => ?_) 9 Try.underlying9
  rw [cell_of (heap_alloc_new' w _)]
  have : (madeCells #[Value.int .u8 0] k.toNat)[0 + j]? = some (.int .u8 0) := by
    rw [← Array.getElem?_toList, toList_madeCells_one]
    simp [hj]
  rw [show (List.replicate k.toNat (0:Int)).getD j 0 = 0 by simp [List.getD, hj]]
  exact this

/- The walk: the law's text returns true. -/
set_option maxRecDepth 100000 in
set_option maxHeartbeats 2000000 in
theorem walk (a0 : Int) (a1 : Int) (a2 : Int) (a3 : Bool) (w0 : (Lit.int .i64 a0).wf = true) (w1 : (Lit.int .i64 a1).wf = true) (w2 : (Lit.int .i64 a2).wf = true) (w : World) :
    Calls Try.prog 5 #[.int .i64 a0, .int .i64 a1, .int .i64 a2, .bool a3] w fun e w' => e = .returned (.bool true) ∧ Below w.heap.size w w' := by
  have hq := bounds_i64 w2
  have hk := bounds_i64 w1
  have M0 := and_2047 a0
  have M1 : 0 ≤ a0 % 2048 := by omega
  have M2 : a0 % 2048 ≤ 2047 := by omega
  generalize a0 % 2048 = kk at *
  go_enter Try.func5, Try.ntmps5
  go_wp2_with fail
  refine (awake_any w).mono ?_
  rintro e wa ⟨rfl, O0⟩
  obtain ⟨wb, s, R1, R2, hsz, O1⟩ := made wa kk M1 M2
  go_wp2_with fail
  have O2 := (O0.trans O1).alloc (.cells #[.int .i64 a1] 3)
  refine (cut_any s _ 1 _ (fun _ => a1) a2 a3 _ (by omega) (Arr.one wb a1 hk)).mono ?_
  rintro e wc ⟨hoc, hpost⟩
  have O3 := O2.trans hoc
  clear O0 O1 O2 hoc R1 R2
  generalize World.alloc _ _ = wx at *
  have hx : ∀ w', Calls Try.prog 9 #[.string ⟨#[120]⟩, .slice none 0 0, .int .i64 0, .bool a3] w' fun e w'' => e = .returned (.tuple #[.slice none 0 0, .int .i64 1800]) ∧ Only [] w' w'' := by
    intro w'
    refine (cut_any ⟨#[120]⟩ none 0 0 (fun _ => 0) 0 a3 w' (by show 1 ≤ _; omega) ⟨by omega, fun i hi => by omega⟩).mono ?_
    rintro e w'' ⟨ho, (⟨_, rfl⟩ | ⟨hb, _⟩)⟩
    · exact ⟨rfl, ho⟩
    · exact absurd (by unfold Bad; omega) hb
  rcases hpost with ⟨hb, rfl⟩ | ⟨hb, n, ao, cap, hn, hc, rfl, hsl, _⟩
  · have hb' := (bad_one _ _ _ _).1 hb
    rw [hsz] at hb'
    clear hb
    cases a3
    · have hb7 : kk < 1 ∨ 1500 < kk ∨ a2 < 0 ∨ 16777216 ≤ a2 ∨ a1 < 1 ∨ 1500 < a1 ∨ 64 * a1 < kk := by have : ring false = 16777216 := rfl; omega
      clear hb'
      by_cases c0 : 1 ≤ kk
      rotate_left
      · have d0 : decide (1 ≤ kk) = false := by simp; omega
        clear hb7
        go_wp2_with (first | (go_at_call 9; refine (hx _).mono ?_; rintro e wd ⟨rfl, hod⟩) | (go_at_call 12; refine (num_any _ _).mono ?_; rintro e w' ⟨rfl, rfl⟩))
        go_ret
        exact ⟨rfl, (O3.trans hod).below _ (Nat.le_refl _) (by simp)⟩
      have d0 : decide (1 ≤ kk) = true := by simp; omega
      by_cases c1 : kk ≤ 1500
      rotate_left
      · have d1 : decide (kk ≤ 1500) = false := by simp; omega
        clear hb7
        go_wp2_with (first | (go_at_call 9; refine (hx _).mono ?_; rintro e wd ⟨rfl, hod⟩) | (go_at_call 12; refine (num_any _ _).mono ?_; rintro e w' ⟨rfl, rfl⟩))
        go_ret
        exact ⟨rfl, (O3.trans hod).below _ (Nat.le_refl _) (by simp)⟩
      have d1 : decide (kk ≤ 1500) = true := by simp; omega
      by_cases c2 : 1 ≤ a1
      rotate_left
      · have d2 : decide (1 ≤ a1) = false := by simp; omega
        clear hb7
        go_wp2_with (first | (go_at_call 9; refine (hx _).mono ?_; rintro e wd ⟨rfl, hod⟩) | (go_at_call 12; refine (num_any _ _).mono ?_; rintro e w' ⟨rfl, rfl⟩))
        go_ret
        exact ⟨rfl, (O3.trans hod).below _ (Nat.le_refl _) (by simp)⟩
      have d2 : decide (1 ≤ a1) = true := by simp; omega
      by_cases c3 : a1 ≤ 1500
      rotate_left
      · have d3 : decide (a1 ≤ 1500) = false := by simp; omega
        clear hb7
        go_wp2_with (first | (go_at_call 9; refine (hx _).mono ?_; rintro e wd ⟨rfl, hod⟩) | (go_at_call 12; refine (num_any _ _).mono ?_; rintro e w' ⟨rfl, rfl⟩))
        go_ret
        exact ⟨rfl, (O3.trans hod).below _ (Nat.le_refl _) (by simp)⟩
      have d3 : decide (a1 ≤ 1500) = true := by simp; omega
      by_cases c4 : 0 ≤ a2
      rotate_left
      · have d4 : decide (0 ≤ a2) = false := by simp; omega
        clear hb7
        go_wp2_with (first | (go_at_call 9; refine (hx _).mono ?_; rintro e wd ⟨rfl, hod⟩) | (go_at_call 12; refine (num_any _ _).mono ?_; rintro e w' ⟨rfl, rfl⟩))
        go_ret
        exact ⟨rfl, (O3.trans hod).below _ (Nat.le_refl _) (by simp)⟩
      have d4 : decide (0 ≤ a2) = true := by simp; omega
      by_cases c5 : a2 < 16777216
      rotate_left
      · have d5 : decide (a2 < 16777216) = false := by simp; omega
        clear hb7
        go_wp2_with (first | (go_at_call 9; refine (hx _).mono ?_; rintro e wd ⟨rfl, hod⟩) | (go_at_call 12; refine (num_any _ _).mono ?_; rintro e w' ⟨rfl, rfl⟩))
        go_ret
        exact ⟨rfl, (O3.trans hod).below _ (Nat.le_refl _) (by simp)⟩
      have d5 : decide (a2 < 16777216) = true := by simp; omega
      have dv : decide ((kk + a1 - 1) / a1 ≤ 64) = false := by
        have h7 : 64 * a1 < kk := by omega
        have : 65 ≤ (kk + a1 - 1) / a1 := by rw [Int.le_ediv_iff_mul_le (by omega)]; omega
        simp; omega
      clear hb7
      go_wp2_with (first | (go_at_call 9; refine (hx _).mono ?_; rintro e wd ⟨rfl, hod⟩) | (go_at_call 12; refine (num_any _ _).mono ?_; rintro e w' ⟨rfl, rfl⟩))
      go_ret
      exact ⟨rfl, (O3.trans hod).below _ (Nat.le_refl _) (by simp)⟩
    · have hb7 : kk < 1 ∨ 1500 < kk ∨ a2 < 0 ∨ 4096 ≤ a2 ∨ a1 < 1 ∨ 1500 < a1 ∨ 64 * a1 < kk := by have : ring true = 4096 := rfl; omega
      clear hb'
      by_cases c0 : 1 ≤ kk
      rotate_left
      · have d0 : decide (1 ≤ kk) = false := by simp; omega
        clear hb7
        go_wp2_with (first | (go_at_call 9; refine (hx _).mono ?_; rintro e wd ⟨rfl, hod⟩) | (go_at_call 12; refine (num_any _ _).mono ?_; rintro e w' ⟨rfl, rfl⟩))
        go_ret
        exact ⟨rfl, (O3.trans hod).below _ (Nat.le_refl _) (by simp)⟩
      have d0 : decide (1 ≤ kk) = true := by simp; omega
      by_cases c1 : kk ≤ 1500
      rotate_left
      · have d1 : decide (kk ≤ 1500) = false := by simp; omega
        clear hb7
        go_wp2_with (first | (go_at_call 9; refine (hx _).mono ?_; rintro e wd ⟨rfl, hod⟩) | (go_at_call 12; refine (num_any _ _).mono ?_; rintro e w' ⟨rfl, rfl⟩))
        go_ret
        exact ⟨rfl, (O3.trans hod).below _ (Nat.le_refl _) (by simp)⟩
      have d1 : decide (kk ≤ 1500) = true := by simp; omega
      by_cases c2 : 1 ≤ a1
      rotate_left
      · have d2 : decide (1 ≤ a1) = false := by simp; omega
        clear hb7
        go_wp2_with (first | (go_at_call 9; refine (hx _).mono ?_; rintro e wd ⟨rfl, hod⟩) | (go_at_call 12; refine (num_any _ _).mono ?_; rintro e w' ⟨rfl, rfl⟩))
        go_ret
        exact ⟨rfl, (O3.trans hod).below _ (Nat.le_refl _) (by simp)⟩
      have d2 : decide (1 ≤ a1) = true := by simp; omega
      by_cases c3 : a1 ≤ 1500
      rotate_left
      · have d3 : decide (a1 ≤ 1500) = false := by simp; omega
        clear hb7
        go_wp2_with (first | (go_at_call 9; refine (hx _).mono ?_; rintro e wd ⟨rfl, hod⟩) | (go_at_call 12; refine (num_any _ _).mono ?_; rintro e w' ⟨rfl, rfl⟩))
        go_ret
        exact ⟨rfl, (O3.trans hod).below _ (Nat.le_refl _) (by simp)⟩
      have d3 : decide (a1 ≤ 1500) = true := by simp; omega
      by_cases c4 : 0 ≤ a2
      rotate_left
      · have d4 : decide (0 ≤ a2) = false := by simp; omega
        clear hb7
        go_wp2_with (first | (go_at_call 9; refine (hx _).mono ?_; rintro e wd ⟨rfl, hod⟩) | (go_at_call 12; refine (num_any _ _).mono ?_; rintro e w' ⟨rfl, rfl⟩))
        go_ret
        exact ⟨rfl, (O3.trans hod).below _ (Nat.le_refl _) (by simp)⟩
      have d4 : decide (0 ≤ a2) = true := by simp; omega
      by_cases c5 : a2 < 4096
      rotate_left
      · have d5 : decide (a2 < 4096) = false := by simp; omega
        clear hb7
        go_wp2_with (first | (go_at_call 9; refine (hx _).mono ?_; rintro e wd ⟨rfl, hod⟩) | (go_at_call 12; refine (num_any _ _).mono ?_; rintro e w' ⟨rfl, rfl⟩))
        go_ret
        exact ⟨rfl, (O3.trans hod).below _ (Nat.le_refl _) (by simp)⟩
      have d5 : decide (a2 < 4096) = true := by simp; omega
      have dv : decide ((kk + a1 - 1) / a1 ≤ 64) = false := by
        have h7 : 64 * a1 < kk := by omega
        have : 65 ≤ (kk + a1 - 1) / a1 := by rw [Int.le_ediv_iff_mul_le (by omega)]; omega
        simp; omega
      clear hb7
      go_wp2_with (first | (go_at_call 9; refine (hx _).mono ?_; rintro e wd ⟨rfl, hod⟩) | (go_at_call 12; refine (num_any _ _).mono ?_; rintro e w' ⟨rfl, rfl⟩))
      go_ret
      exact ⟨rfl, (O3.trans hod).below _ (Nat.le_refl _) (by simp)⟩
  · have hb' := mt (bad_one _ _ _ _).2 hb
    rw [hsz] at hb'
    have g1 : 1 ≤ kk := by omega
    have g2 : kk ≤ 1500 := by omega
    have g3 : 1 ≤ a1 := by omega
    have g4 : a1 ≤ 1500 := by omega
    have g5 : 0 ≤ a2 := by omega
    have g6 : a2 < ring a3 := by omega
    have hcn := hc.unique (cuts_one _ a1 g3)
    have D : (kk + a1 - 1) / a1 = (n : Int) := by
      rw [hcn, hsz, Int.natCast_ediv, show (((kk.toNat + a1.toNat - 1 : Nat)) : Int) = kk + a1 - 1 by omega, Int.toNat_of_nonneg (by omega)]
    have hn' : decide ((n : Int) ≤ 64) = true := by simp; omega
    clear hb' hb hcn hc hsl
    cases a3
    · have g7 : a2 < 16777216 := g6
      clear g6
      go_wp2_with (first | (go_at_call 9; refine (hx _).mono ?_; rintro e wd ⟨rfl, hod⟩) | (go_at_call 12; refine (num_any _ _).mono ?_; rintro e w' ⟨rfl, rfl⟩))
      go_ret
      exact ⟨rfl, (O3.trans hod).below _ (Nat.le_refl _) (by simp)⟩
    · have g7 : a2 < 4096 := g6
      clear g6
      go_wp2_with (first | (go_at_call 9; refine (hx _).mono ?_; rintro e wd ⟨rfl, hod⟩) | (go_at_call 12; refine (num_any _ _).mono ?_; rintro e w' ⟨rfl, rfl⟩))
      go_ret
      exact ⟨rfl, (O3.trans hod).below _ (Nat.le_refl _) (by simp)⟩

/- The row's step. -/
set_option maxRecDepth 100000 in
theorem lifted (os : Os) (started : os.Started) (H : Type) (enc : TypeId × Value → H) :
    ReturnsInHanded {} Try.checked os 5 .any (Rows.splitFormsSpec.pre6 enc Try.prog Try.f5 Rows.splitFormsRow.domain false) (Rows.splitFormsSpec.post enc Try.prog Try.f5 false true false false) := by
  refine returnsInHanded_of_change (C := Try.checked) own started (by kernel_rfl) Try.func5
    (ChangeSpec.witness6 (enc := enc) (C := Try.checked) false ⟨#[], #[.int .i64 0, .int .i64 0, .int .i64 0, .bool false], []⟩ 8 (by kernel_rfl) (by kernel_rfl) (by kernel_rfl) (by kernel_rfl)) ?_
  intro W base args ds gs before hval0 hW hcnd _
  have hval : ∀ (j : Nat) t v, Try.f5.params[j]? = some t → args[j]? = some v → Value.okWide Try.prog W .any base t v := hval0
  have hW' := hW
  obtain ⟨p, q, hA0, hV, rfl, hfz, hnd⟩ := hW
  have hA : DataW.TrodAll enc Try.prog W 0 (fun _ => true) true Try.f5.params.toList args.toList ds p := hA0
  rw [Try.params5] at hA hval
  obtain ⟨v0, vs0, d0, ds0, p0, q0, hargs, rfl, rfl, h0, r0⟩ := trodAll_cons hA
  obtain ⟨v1, vs1, d1, ds1, p1, q1, rfl, rfl, rfl, h1, r1⟩ := trodAll_cons r0
  obtain ⟨v2, vs2, d2, ds2, p2, q2, rfl, rfl, rfl, h2, r2⟩ := trodAll_cons r1
  obtain ⟨v3, vs3, d3, ds3, p3, q3, rfl, rfl, rfl, h3, r3⟩ := trodAll_cons r2
  obtain ⟨rfl, rfl, rfl⟩ := trodAll_nil r3
  obtain rfl : args = #[v0, v1, v2, v3] := by cases args; simp_all
  obtain ⟨rfl, rfl⟩ := trodVars_none hV
  obtain ⟨a0, rfl, rfl, rfl, w0⟩ := open_int Try.underlying3 (hval 0 3 v0 rfl rfl) h0
  obtain ⟨a1, rfl, rfl, rfl, w1⟩ := open_int Try.underlying3 (hval 1 3 v1 rfl rfl) h1
  obtain ⟨a2, rfl, rfl, rfl, w2⟩ := open_int Try.underlying3 (hval 2 3 v2 rfl rfl) h2
  obtain ⟨a3, rfl, rfl, rfl⟩ := open_bool Try.underlying4 (hval 3 4 v3 rfl rfl) h3
  clear hA0 hval0
  refine (walk a0 a1 a2 a3 w0 w1 w2 W).mono fun e W' ⟨he, hg⟩ => ?_
  subst he
  exact ⟨_, rfl, _, _, _, [], _, [], hW', (trodAll_cons_mk (shut_bool Try.underlying4 _) trodAll_mk0), (trodAll_cons_mk (shut_int Try.underlying3 w0) (trodAll_cons_mk (shut_int Try.underlying3 w1) (trodAll_cons_mk (shut_int Try.underlying3 w2) (trodAll_cons_mk (shut_bool Try.underlying4 _) trodAll_mk0)))), rfl, hg.frame _, fun h => by cases h⟩

theorem over : Rows.splitFormsRow.holds Try.pinned (OpenSpec.ofChange Rows.splitFormsSpec) :=
  OpenClaim.holds_of_wide 5 Try.f5 rfl rfl rfl rfl rfl rfl rfl ⟨rfl, rfl, rfl, rfl, rfl⟩ rfl rfl rfl rfl rfl (by kernel_rfl) Try.func5 (by kernel_rfl)
    (of_decide_eq_true (by kernel_rfl)) (by unfold Func.isWrapper; first | (rw [if_pos (by decide +kernel)]; kernel_rfl) | (rw [if_neg (by decide +kernel)]; exact ⟨rfl, rfl⟩))
    (fun os started H enc _ => lifted os started H enc)

/-- The statement. -/
theorem proved : Rows.SplitFormsSaid :=
  over
#print axioms proved
end Go.Proofs.Ythhhbnbhcedhmaa.splitForms

/- Proved here: withylaw23.MeterTwins returns true for every input and leaves its arguments as they were (the given statement Rows.MeterTwinsSaid). Conditions: none. -/
import Derived.Test.YtpgjlkbjejlinaaRows
import Derived.Test.YtpgjlkbjejlinaaLaws
import Derived.Test.YtpgjlkbjejlinaaMask
import Derived.WalkKit
import Derived.Lib.Hide
import Derived.Deep.Cut
import Derived.StillTactics
import Derived.ProofKit
import Derived.OpenShut
import Derived.ShutString
import Derived.ChangeOld
import Derived.Below
namespace Go.Proofs.Ytpgjlkbjejlinaa.meterTwins
open Go.ChangeShapes Go.WideShapes Go.ChangeAt Go.RowKit
open Plain
open Go.ChangeMaps (open_string shut_string)
set_option linter.unusedVariables false

theorem own : ownKnob Try.prog.godebug = none := by kernel_rfl
theorem laidOut : laidOutB Try.prog = true := by kernel_rfl

/-- WHAT THE WALK IS TOLD OF A SLICE OF INTEGERS THAT CAME IN: it is nil; or it leads to a row of 'cap' cells, the numbers 'zs' (the first 'len' are its elements, the rest its spare room), each fitting its kind. -/
def IsRow (k : IntKind) (w : World) (a : Option Addr) (len cap : Nat) (zs : List Int) : Prop :=
  (a = none ∧ len = 0 ∧ cap = 0 ∧ zs = []) ∨
  ∃ x, a = some x ∧ len ≤ cap ∧ cap ≤ maxLen ∧ zs.length = cap ∧ (∀ i, i < zs.length → w.cell? (x.add i) = some (.int k (zs.getD i 0))) ∧ ∀ n ∈ zs, (Lit.int k n).wf = true

/-- an element of a row that came in. -/
theorem row_at {w : World} {a : Option Addr} {len cap : Nat} {zs : List Int} (h : IsRow .i64 w a len cap zs) (i : Nat) (hi : i < len) :
    ∃ b off, a = some ⟨b, off, none⟩ ∧ b < w.heap.size ∧ w.cell? ⟨b, off + i, none⟩ = some (.int .i64 (zs.getD i 0)) ∧ -9223372036854775808 ≤ zs.getD i 0 ∧ zs.getD i 0 ≤ 9223372036854775807 := by
  rcases h with ⟨_, rfl, _, _⟩ | ⟨x, rfl, hl, hm, hz, hcell, hwz⟩
  · omega
  · have hc := hcell i (by omega)
    obtain ⟨b, off, spot⟩ := x
    have hc0 := hcell 0 (by omega)
    have hspot : spot = none := by simpa [Addr.add] using World.cell?_spot hc0
    subst hspot
    rw [Addr.add_lit] at hc
    have hb := bounds_i64 (hwz (zs.getD i 0) (by rw [show zs.getD i 0 = zs[i]'(by omega) from by simp [List.getD, show i < zs.length by omega]]; exact List.getElem_mem _))
    exact ⟨b, off, rfl, World.block_lt_of_cell? w _ hc, hc, hb.1, hb.2⟩
theorem row_len {w : World} {a : Option Addr} {len cap : Nat} {zs : List Int} (h : IsRow .i64 w a len cap zs) : len ≤ 9223372036854775807 := by
  rcases h with ⟨_, rfl, _, _⟩ | ⟨x, rfl, hl, hm, _⟩
  · omega
  · unfold maxLen at hm; omega

/- The walk: the law's text returns true. -/
set_option maxRecDepth 100000 in
set_option maxHeartbeats 2000000 in
theorem walk (a0 : Int) (a1 : Int) (a2 : Option Addr) (len2 cap2 : Nat) (z2 : List Int) (a3 : Option Addr) (len3 cap3 : Nat) (z3 : List Int) (w : World) (w0 : (Lit.int .i64 a0).wf = true) (w1 : (Lit.int .i64 a1).wf = true) (w2 : IsRow .i64 w a2 len2 cap2 z2) (w3 : IsRow .i64 w a3 len3 cap3 z3) :
    Calls Try.prog 9 #[.int .i64 a0, .int .i64 a1, .slice a2 len2 cap2, .slice a3 len3 cap3] w fun e w' => e = .returned (.bool true) ∧ Below w.heap.size w w' := by
  have L0 := and_15 a0
  have L1 := and_7 a1
  have hlen2 := row_len w2
  have hlen3 := row_len w3
  clear w0 w1
  go_enter Try.func9, Try.ntmps9
  go_wp2_with fail
  refine (awake_any w).mono ?_
  rintro e wa ⟨rfl, O0⟩
  have r31 : 0 ≤ a0 % 16 := by omega
  have r32 : a0 % 16 < 16 := by omega
  have r41 : 0 ≤ a1 % 8 := by omega
  have r42 : a1 % 8 < 8 := by omega
  generalize a0 % 16 = q at *
  generalize a1 % 8 = k0 at *
  have HM : Hid (mayB (1 + q) 700 300 (1 + k0) = true) := by show _ = _; simp [mayB]; omega
  go_wp2_with fail
  refine (new_st (1 + q) 700 300 (1 + k0) wa HM.out).mono ?_
  rintro e wb ⟨pa, ra, rfl, ma, O1, hpa, hra⟩
  go_wp2_with fail
  refine (new_st (1 + q) 700 300 (1 + k0) wb HM.out).mono ?_
  rintro e wc ⟨pb, rb, rfl, mb, O2, hpb, hrb⟩
  have ma2 := ma.only O2 (by simp) (by simp)
  have hlta := MA.lt ma
  have B0 : Below w.heap.size w wc := ((O0.trans O1).trans O2).below _ (Nat.le_refl _) (by simp)
  have hsz := O0.size
  have hsz1 := O1.size
  obtain ⟨l1, l2⟩ := hlta
  generalize st0 (1 + q) = S0 at *
  clear O0 O1 O2 HM ma L0 L1
  generalize 1 + k0 = k at *
  go_wp2_with fail
  go_loopw [13] (fun i wr => ∃ (t : Nat) (S : St), t ≤ len2 ∧ t ≤ len3 ∧ t ≤ 80 ∧ i = .int .i64 t ∧ MS wr pa ra 700 300 k S ∧ MS wr pb rb 700 300 k S ∧ Below w.heap.size w wr) (fun i _ => 80 - (intOf i).toNat)
  case atStart => exact ⟨0, S0, by omega, by omega, by omega, rfl, ma2, mb, B0⟩
  case round =>
    clear B0 ma2 mb
    obtain ⟨t, S, ht1, ht2, ht3, rfl, ma, mb, hbel⟩ := hrel
    by_cases hl1 : t < len2
    rotate_left
    · have d1 : decide (t < len2) = false := by simp; omega
      have ma2 := ma
      have mb2 := mb
      obtain ⟨T, hT⟩ : ∃ T, T = S := ⟨_, rfl⟩
      subst hT
      clear ma mb
      go_wp2_with (go_at_call 12; refine (num_any _ _).mono ?_; rintro e w' ⟨rfl, rfl⟩)
      refine (share_st pa ra 700 300 k T _ ma2).mono ?_
      rintro e w' ⟨rfl, rfl⟩
      go_wp2_with fail
      refine (share_st pb rb 700 300 k T _ mb2).mono ?_
      rintro e w' ⟨rfl, rfl⟩
      go_wp2_with fail
      go_ret
      exact ⟨by first | rfl | simp, hbel⟩
    have d1 : decide (t < len2) = true := by simp; omega
    by_cases hl2 : t < len3
    rotate_left
    · have d2 : decide (t < len3) = false := by simp; omega
      have ma2 := ma
      have mb2 := mb
      obtain ⟨T, hT⟩ : ∃ T, T = S := ⟨_, rfl⟩
      subst hT
      clear ma mb
      go_wp2_with (go_at_call 12; refine (num_any _ _).mono ?_; rintro e w' ⟨rfl, rfl⟩)
      refine (share_st pa ra 700 300 k T _ ma2).mono ?_
      rintro e w' ⟨rfl, rfl⟩
      go_wp2_with fail
      refine (share_st pb rb 700 300 k T _ mb2).mono ?_
      rintro e w' ⟨rfl, rfl⟩
      go_wp2_with fail
      go_ret
      exact ⟨by first | rfl | simp, hbel⟩
    have d2 : decide (t < len3) = true := by simp; omega
    by_cases hl3 : t < 80
    rotate_left
    · have d3 : decide ((t : Int) < 80) = false := by simp; omega
      have ma2 := ma
      have mb2 := mb
      obtain ⟨T, hT⟩ : ∃ T, T = S := ⟨_, rfl⟩
      subst hT
      clear ma mb
      go_wp2_with (go_at_call 12; refine (num_any _ _).mono ?_; rintro e w' ⟨rfl, rfl⟩)
      refine (share_st pa ra 700 300 k T _ ma2).mono ?_
      rintro e w' ⟨rfl, rfl⟩
      go_wp2_with fail
      refine (share_st pb rb 700 300 k T _ mb2).mono ?_
      rintro e w' ⟨rfl, rfl⟩
      go_wp2_with fail
      go_ret
      exact ⟨by first | rfl | simp, hbel⟩
    have d3 : decide ((t : Int) < 80) = true := by simp; omega
    obtain ⟨b2, off2, rfl, hbl2, hc2, hz21, hz22⟩ := row_at w2 t hl1
    obtain ⟨b3, off3, rfl, hbl3, hc3, hz31, hz32⟩ := row_at w3 t hl2
    have hcr2 : wr.cell? ⟨b2, off2 + t, none⟩ = some (.int .i64 (z2.getD t 0)) := (hbel.cell hbl2).trans hc2
    have hcr3 : wr.cell? ⟨b3, off3 + t, none⟩ = some (.int .i64 (z3.getD t 0)) := (hbel.cell hbl3).trans hc3
    generalize z2.getD t 0 = y2 at *
    generalize z3.getD t 0 = y3 at *
    have m1 := and_4095 y2
    have m2 := and_4095 y3
    clear hc2 hc3
    go_wp2_with fail
    refine wp_region_reads mixed (by kernel_rfl) ?_
    repeat (refine wpStill_op rfl rfl (fun K hK => ?_); go_step; refine hK _ ?_; clear hK K)
    refine wpStill_nil ?_
    have t1 : 0 ≤ y2 % 4096 ∧ y2 % 4096 < 4096 := by omega
    have t2 : 0 ≤ y3 % 4096 ∧ y3 % 4096 < 4096 := by omega
    clear m1 m2 hcr2 hcr3
    generalize y2 % 4096 = x at *
    generalize y3 % 4096 = y at *
    obtain ⟨t11, t12⟩ := t1
    obtain ⟨t21, t22⟩ := t2
    have KO : Hid (Ok (x, y)) := ⟨t11, by show x ≤ _; omega, t21, by show y ≤ _; omega⟩
    have KB : Hid (-1 - x < 0 ∨ 2147483647 < -1 - x ∨ y < 0 ∨ 2147483647 < y) := by show _ ∨ _; omega
    have mb1 := mb.only (Only.drew (Only.refl [] _)) (by simp) (by simp)
    have B1 := hbel.drew
    go_wp2_with fail
    refine (tick_any pa ra 700 300 k x y S _ (ma.only (Only.drew (Only.refl [] _)) (by simp) (by simp)) KO.out).mono ?_
    rintro e w2 ⟨rfl, ma1, Oa⟩
    have mb2 := mb1.only Oa (by simp; omega) (by simp; omega)
    have B2 : Below w.heap.size w w2 := B1.trans (Oa.below _ B1.size (by simp; omega))
    clear ma mb hbel mb1 B1 Oa
    go_wp2_with fail
    refine (mtick_bad ⟨pa, 0, none⟩ (-1 - x) y _ KB.out).mono ?_
    rintro e w' ⟨rfl, rfl⟩
    go_wp2_with fail
    refine (tick_any pb rb 700 300 k x y S _ mb2 KO.out).mono ?_
    rintro e w3 ⟨rfl, mb3, Ob⟩
    have ma3 := ma1.only Ob (by simp; omega) (by simp; omega)
    have B3 : Below w.heap.size w w3 := B2.trans (Ob.below _ B2.size (by simp; omega))
    clear ma1 mb2 B2 Ob KB KO
    have ma2 := ma3
    have mb2 := mb3
    clear ma3 mb3
    generalize stTick 700 300 k S (x, y) = T at *
    generalize ans 700 300 k S (x, y) = A at *
    go_wp2_with (go_at_call 12; refine (num_any _ _).mono ?_; rintro e w' ⟨rfl, rfl⟩)
    refine (share_st pa ra 700 300 k T _ ma2).mono ?_
    rintro e w' ⟨rfl, rfl⟩
    go_wp2_with fail
    refine (share_st pb rb 700 300 k T _ mb2).mono ?_
    rintro e w' ⟨rfl, rfl⟩
    go_wp2_with fail
    go_roundw
    case rel => exact ⟨t + 1, T, by omega, by omega, by omega, by go_num, ma2, mb2, B3⟩
    case measure => simp [intOf]; omega

/- The row's step. -/
set_option maxRecDepth 100000 in
theorem lifted (os : Os) (started : os.Started) (H : Type) (enc : TypeId × Value → H) :
    ReturnsInHanded {} Try.checked os 9 .any (Rows.meterTwinsSpec.pre6 enc Try.prog Try.f9 Rows.meterTwinsRow.domain false) (Rows.meterTwinsSpec.post enc Try.prog Try.f9 false true false false) := by
  refine returnsInHanded_of_change (C := Try.checked) own started (by kernel_rfl) Try.func9
    (ChangeSpec.witness6 (enc := enc) (C := Try.checked) false ⟨#[], #[.int .i64 0, .int .i64 0, .slice none 0 0, .slice none 0 0], []⟩ 8 (by kernel_rfl) (by kernel_rfl) (by kernel_rfl) (by kernel_rfl)) ?_
  intro W base args ds gs before hval0 hW hcnd _
  have hval : ∀ (j : Nat) t v, Try.f9.params[j]? = some t → args[j]? = some v → Value.okWide Try.prog W .any base t v := hval0
  have hW' := hW
  obtain ⟨p, q, hA0, hV, rfl, hfz, hnd⟩ := hW
  have hA : DataW.TrodAll enc Try.prog W 0 (fun _ => true) true Try.f9.params.toList args.toList ds p := hA0
  rw [Try.params9] at hA hval
  obtain ⟨v0, vs0, d0, ds0, p0, q0, hargs, rfl, rfl, h0, r0⟩ := trodAll_cons hA
  obtain ⟨v1, vs1, d1, ds1, p1, q1, rfl, rfl, rfl, h1, r1⟩ := trodAll_cons r0
  obtain ⟨v2, vs2, d2, ds2, p2, q2, rfl, rfl, rfl, h2, r2⟩ := trodAll_cons r1
  obtain ⟨v3, vs3, d3, ds3, p3, q3, rfl, rfl, rfl, h3, r3⟩ := trodAll_cons r2
  obtain ⟨rfl, rfl, rfl⟩ := trodAll_nil r3
  obtain rfl : args = #[v0, v1, v2, v3] := by cases args; simp_all
  obtain ⟨rfl, rfl⟩ := trodVars_none hV
  obtain ⟨a0, rfl, rfl, rfl, w0⟩ := open_int Try.underlying3 (hval 0 3 v0 rfl rfl) h0
  obtain ⟨a1, rfl, rfl, rfl, w1⟩ := open_int Try.underlying3 (hval 1 3 v1 rfl rfl) h1
  obtain ⟨a2, len2, cap2, rfl⟩ := okWide_slice Try.underlying22 (hval 2 22 v2 rfl rfl)
  have k2 := h2
  have lt2 : ∀ x ∈ p2, x.block < W.heap.size := by obtain ⟨m, hm⟩ := k2; exact DataW.trod_lt m _ _ _ hm
  obtain ⟨z2, w2⟩ : ∃ zs, IsRow .i64 W a2 len2 cap2 zs := by
    obtain ⟨fuel, hf⟩ := h2
    rcases open_ints Try.underlying22 Try.underlying3 (by kernel_rfl) hf with ⟨hcs, _⟩ | ⟨x, l, c, zs, hcs, _, hl, hm, hz, _, hcell, hwz⟩
    · simp [Value.cells] at hcs
      obtain ⟨rfl, rfl, rfl⟩ := hcs
      exact ⟨[], .inl ⟨rfl, rfl, rfl, rfl⟩⟩
    · simp [Value.cells] at hcs
      obtain ⟨rfl, rfl, rfl⟩ := hcs
      exact ⟨zs, .inr ⟨_, rfl, hl, hm, by simpa using hz, hcell, hwz⟩⟩
  obtain ⟨a3, len3, cap3, rfl⟩ := okWide_slice Try.underlying22 (hval 3 22 v3 rfl rfl)
  have k3 := h3
  have lt3 : ∀ x ∈ p3, x.block < W.heap.size := by obtain ⟨m, hm⟩ := k3; exact DataW.trod_lt m _ _ _ hm
  obtain ⟨z3, w3⟩ : ∃ zs, IsRow .i64 W a3 len3 cap3 zs := by
    obtain ⟨fuel, hf⟩ := h3
    rcases open_ints Try.underlying22 Try.underlying3 (by kernel_rfl) hf with ⟨hcs, _⟩ | ⟨x, l, c, zs, hcs, _, hl, hm, hz, _, hcell, hwz⟩
    · simp [Value.cells] at hcs
      obtain ⟨rfl, rfl, rfl⟩ := hcs
      exact ⟨[], .inl ⟨rfl, rfl, rfl, rfl⟩⟩
    · simp [Value.cells] at hcs
      obtain ⟨rfl, rfl, rfl⟩ := hcs
      exact ⟨zs, .inr ⟨_, rfl, hl, hm, by simpa using hz, hcell, hwz⟩⟩
  clear hA0 hval0
  refine (walk a0 a1 a2 len2 cap2 z2 a3 len3 cap3 z3 W w0 w1 w2 w3).mono fun e W' ⟨he, bel⟩ => ?_
  subst he
  exact ⟨_, rfl, _, _, _, [], _, [], hW', trodAll_mk1 (shut_bool Try.underlying4 _), (trodAll_cons_mk (shut_int Try.underlying3 w0) (trodAll_cons_mk (shut_int Try.underlying3 w1) (trodAll_cons_mk (Below.trod laidOut (by kernel_rfl) (of_decide_eq_true (by kernel_rfl)) k2 bel lt2) (trodAll_cons_mk (Below.trod laidOut (by kernel_rfl) (of_decide_eq_true (by kernel_rfl)) k3 bel lt3) trodAll_mk0)))), rfl, bel.frame _, fun h => by cases h⟩

theorem over : Rows.meterTwinsRow.holds Try.pinned (OpenSpec.ofChange Rows.meterTwinsSpec) :=
  OpenClaim.holds_of_wide 9 Try.f9 rfl rfl rfl rfl rfl rfl rfl ⟨rfl, rfl, rfl, rfl, rfl⟩ rfl rfl rfl rfl rfl (by kernel_rfl) Try.func9 (by kernel_rfl)
    (of_decide_eq_true (by kernel_rfl)) (by unfold Func.isWrapper; first | (rw [if_pos (by decide +kernel)]; kernel_rfl) | (rw [if_neg (by decide +kernel)]; exact ⟨rfl, rfl⟩))
    (fun os started H enc _ => lifted os started H enc)

/-- The statement. -/
theorem proved : Rows.MeterTwinsSaid := over
#print axioms proved
end Go.Proofs.Ytpgjlkbjejlinaa.meterTwins

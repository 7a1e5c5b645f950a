/- Proved here: withylaw17.QualityTwins returns true for every input and leaves its arguments as they were (the given statement Rows.QualityTwinsSaid). Conditions: none. -/
import Derived.Test.YtkmoakbebpibdaaRows
import Derived.Test.YtkmoakbebpibdaaCon
import Derived.Test.YtkmoakbebpibdaaMask
import Derived.Test.YtkmoakbebpibdaaBase2
import Derived.Test.YtkmoakbebpibdaaRegion2
import Derived.WalkKit
import Derived.ProofKit
import Derived.OpenShut
import Derived.ShutString
import Derived.ChangeOld
import Derived.Below
namespace Go.Proofs.Ytkmoakbebpibdaa.qualityTwins
open Go.ChangeShapes Go.WideShapes Go.ChangeAt Go.RowKit
open Plain
open Go.ChangeMaps (open_string shut_string)
set_option linter.unusedVariables false

theorem own : ownKnob Try.prog.godebug = none := by kernel_rfl
theorem laidOut : laidOutB Try.prog = true := by kernel_rfl

/-- WHAT THE WALK IS TOLD OF A SLICE OF INTEGERS THAT CAME IN: it is nil; or it leads to a row of 'cap' cells, the numbers 'zs' (the first 'len' are its elements, the rest its spare room), each fitting its kind. -/
def IsRow (k : IntKind) (w : World) (a : Option Addr) (len cap : Nat) (zs : List Int) : Prop :=
  (a = none ∧ len = 0 ∧ cap = 0 ∧ zs = []) ∨
  ∃ x, a = some x ∧ len ≤ cap ∧ cap ≤ maxLen ∧ zs.length = cap ∧ (∀ i, i < zs.length → w.cell? (x.add i) = some (.int k (zs.getD i 0))) ∧ ∀ n ∈ zs, (Lit.int k n).wf = true

/-- an element of a row that came in. -/
theorem row_at {w : World} {a : Option Addr} {len cap : Nat} {zs : List Int} (h : IsRow .i64 w a len cap zs) (i : Nat) (hi : i < len) :
    ∃ b off, a = some ⟨b, off, none⟩ ∧ b < w.heap.size ∧ w.cell? ⟨b, off + i, none⟩ = some (.int .i64 (zs.getD i 0)) ∧ -9223372036854775808 ≤ zs.getD i 0 ∧ zs.getD i 0 ≤ 9223372036854775807 := by
  rcases h with ⟨_, rfl, _, _⟩ | ⟨x, rfl, hl, hm, hz, hcell, hwz⟩
  · omega
  · have hc := hcell i (by omega)
    obtain ⟨b, off, spot⟩ := x
    have hc0 := hcell 0 (by omega)
    have hspot : spot = none := by simpa [Addr.add] using World.cell?_spot hc0
    subst hspot
    rw [Addr.add_lit] at hc
    have hb := bounds_i64 (hwz (zs.getD i 0) (by rw [show zs.getD i 0 = zs[i]'(by omega) from by simp [List.getD, show i < zs.length by omega]]; exact List.getElem_mem _))
    exact ⟨b, off, rfl, World.block_lt_of_cell? w _ hc, hc, hb.1, hb.2⟩
theorem row_len {w : World} {a : Option Addr} {len cap : Nat} {zs : List Int} (h : IsRow .i64 w a len cap zs) : len ≤ 9223372036854775807 := by
  rcases h with ⟨_, rfl, _, _⟩ | ⟨x, rfl, hl, hm, _⟩
  · omega
  · unfold maxLen at hm; omega
/- The walk: the law's text returns true. -/
set_option maxRecDepth 100000 in
set_option maxHeartbeats 2000000 in
theorem walk (a0 : Int) (a1 : Int) (a2 : Option Addr) (len2 cap2 : Nat) (z2 : List Int) (a3 : Option Addr) (len3 cap3 : Nat) (z3 : List Int) (w : World) (w0 : (Lit.int .i64 a0).wf = true) (w1 : (Lit.int .i64 a1).wf = true) (w2 : IsRow .i64 w a2 len2 cap2 z2) (w3 : IsRow .i64 w a3 len3 cap3 z3) :
    Calls Try.prog 8 #[.int .i64 a0, .int .i64 a1, .slice a2 len2 cap2, .slice a3 len3 cap3] w fun e w' => e = .returned (.bool true) ∧ Below w.heap.size w w' := by
  have q1 := u64_nonneg a1
  have m0 := and_15 a0
  have hlen2 := row_len w2
  have hlen3 := row_len w3
  clear w0 w1
  go_enter Try.func8, Try.ntmps8
  go_wp2_with fail
  refine (awake_any w).mono ?_
  rintro e wa ⟨rfl, O0⟩
  go_wp2_with fail
  have r0 : 0 ≤ a0 % 16 ∧ a0 % 16 < 16 := by omega
  have r1 : 0 ≤ IntKind.u64.wrap a1 % 101 ∧ IntKind.u64.wrap a1 % 101 < 101 := by omega
  clear m0
  generalize a0 % 16 = n at *
  generalize IntKind.u64.wrap a1 % 101 = g at *
  generalize IntKind.u64.wrap a1 = y1 at *
  obtain ⟨r01, r02⟩ := r0
  obtain ⟨r11, r12⟩ := r1
  refine (qnew (1 + n) g 100 wa (by omega) (by omega) (by omega) (by omega) (by omega) (by omega)).mono ?_
  rintro e wb ⟨pa, ra, rfl, hqa, O1, hpa, hra⟩
  go_wp2_with fail
  refine (qnew (1 + n) g 100 wb (by omega) (by omega) (by omega) (by omega) (by omega) (by omega)).mono ?_
  rintro e wc ⟨pb, rb, rfl, hqb, O2, hpb, hrb⟩
  have hqa2 := hqa.only O2 (by simp) (by simp)
  have O3 : Only [] w wc := (O0.trans O1).trans O2
  have s0 := O0.size
  have s1' := O1.size
  have hla := hqa.lt
  obtain ⟨hla1, hla2⟩ := hla
  have B0 : Below w.heap.size w wc := O3.below _ (Nat.le_refl _) (by simp)
  have HL : (List.replicate (1 + n).toNat ((0 : Int), (0 : Int))).length = (1 + n).toNat := by simp
  generalize List.replicate (1 + n).toNat ((0 : Int), (0 : Int)) = W0 at *
  clear hqa O0 O1 O2 O3
  go_wp2
  go_loopw [15] (fun i wr => ∃ (k : Nat) (W : List (Int × Int)), k ≤ len2 ∧ k ≤ len3 ∧ k ≤ 60 ∧ i = .int .i64 k ∧ QA wr pa ra g 100 W ∧ QA wr pb rb g 100 W ∧ Below w.heap.size w wr) (fun i _ => 60 - (intOf i).toNat)
  case atStart => exact ⟨0, W0, Nat.zero_le _, Nat.zero_le _, by omega, rfl, hqa2, hqb, B0⟩
  case round =>
    obtain ⟨k, Wa, hk2, hk3, hk60, rfl, ha, hb, hbel⟩ := hrel
    clear hqa2 hqb B0 HL
    by_cases hl2 : k < len2
    · by_cases hl3 : k < len3
      · by_cases hl6 : k < 60
        · skip
          obtain ⟨b2, off2, rfl, hbl2, hc2, hz21, hz22⟩ := row_at w2 k hl2
          obtain ⟨b3, off3, rfl, hbl3, hc3, hz31, hz32⟩ := row_at w3 k hl3
          have hcr2 : wr.cell? ⟨b2, off2 + k, none⟩ = some (.int .i64 (z2.getD k 0)) := (hbel.cell hbl2).trans hc2
          have hcr3 : wr.cell? ⟨b3, off3 + k, none⟩ = some (.int .i64 (z3.getD k 0)) := (hbel.cell hbl3).trans hc3
          generalize z2.getD k 0 = y2 at *
          generalize z3.getD k 0 = y3 at *
          have d1 : decide (k < len2) = true := by simp; omega
          have d2 : decide (k < len3) = true := by simp; omega
          have d3 : decide ((k : Int) < 60) = true := by simp; omega
          clear hc2 hc3
          have m1 := and_1023 y2
          have m2 := and_1023 y3
          go_wp2_with ((with_reducible apply wpList_min); (focus rfl); (focus rfl))
          have t1 : 0 ≤ y2 % 1024 ∧ y2 % 1024 < 1024 := by omega
          have t2 : 0 ≤ y3 % 1024 ∧ y3 % 1024 < 1024 := by omega
          clear m1 m2 hcr2 hcr3 d1 d2 d3
          generalize y2 % 1024 = s at *
          generalize y3 % 1024 = c at *
          have hx1 : min (1 + s) c ≤ 1 + s := by omega
          have hx0 : 0 ≤ min (1 + s) c := by omega
          generalize min (1 + s) c = x at *
          refine (qadd pa ra g 100 (1 + s) x Wa wr ha (by omega) (by omega) (by omega)).mono ?_
          rintro e w1 ⟨rfl, ha1, Oa⟩
          have hb1 := hb.only Oa (by simp; omega) (by simp; omega)
          have la := ha.lt
          have lb := hb.lt
          have B1 : Below w.heap.size w w1 := hbel.trans (Oa.below _ hbel.size (by simp; omega))
          clear hb Oa
          go_wp2_with fail
          refine (qadd pb rb g 100 (1 + s) x Wa w1 hb1 (by omega) (by omega) (by omega)).mono ?_
          rintro e w2' ⟨rfl, hb2, Ob⟩
          have ha2 := ha1.only Ob (by simp; omega) (by simp; omega)
          have B2 : Below w.heap.size w w2' := B1.trans (Ob.below _ B1.size (by simp; omega))
          clear ha ha1 hb1 Ob B1 hbel
          generalize Wa.tail ++ [(1 + s, x)] = V at *
          go_wp2
          obtain ⟨wo, rfl⟩ : ∃ wo : World, wo = wr := ⟨_, rfl⟩
          go_loopw [20] (fun i wr => ∃ (j : Nat), j ≤ 3 ∧ i = .int .i64 j ∧ QA wr pa ra g 100 V ∧ QA wr pb rb g 100 V ∧ Below w.heap.size w wr) (fun i _ => 3 - (intOf i).toNat)
          case atStart => exact ⟨0, by omega, rfl, ha2, hb2, B2⟩
          case round =>
            obtain ⟨j, hj, rfl, ha3, hb3, B3⟩ := hrel
            by_cases hj3 : j < 3
            · have d4 : decide ((j : Int) < 3) = true := by simp; omega
              go_wp2_with fail
              refine (qgood pa ra g 100 _ _ ha3).mono ?_
              rintro e w' ⟨rfl, rfl⟩
              go_wp2_with fail
              refine (qgood pb rb g 100 _ _ hb3.drew).mono ?_
              rintro e w' ⟨rfl, rfl⟩
              go_wp2
              go_roundw
              case rel => exact ⟨j + 1, by omega, by go_num, ha3.drew.drew, hb3.drew.drew, B3.drew.drew⟩
              case measure => simp [intOf]; omega
            · have d4 : decide ((j : Int) < 3) = false := by simp; omega
              have KB : Hid (x < 0 ∨ 2147483647 < x ∨ 1 + s + 1 < 0 ∨ x < 1 + s + 1) := by show _ ∨ _; omega
              go_wp2_with fail
              refine (qadd_bad _ _ _ _ KB.out).mono ?_
              rintro e w' ⟨rfl, rfl⟩
              go_wp2_with (go_at_call 11; refine (num_any _ _).mono ?_; rintro e w' ⟨rfl, rfl⟩)
              go_roundw
              case rel => exact ⟨k + 1, _, by omega, by omega, by omega, by go_num, ha3, hb3, B3⟩
              case measure => simp [intOf]; omega
        · have d1 : decide (k < len2) = true := by simp; omega
          have d2 : decide (k < len3) = true := by simp; omega
          have d3 : decide ((k : Int) < 60) = false := by simp; omega
          go_wp2_with (go_at_call 11; refine (num_any _ _).mono ?_; rintro e w' ⟨rfl, rfl⟩)
          refine (qgood pa ra g 100 _ _ ha).mono ?_
          rintro e w' ⟨rfl, rfl⟩
          go_wp2_with fail
          refine (qgood pb rb g 100 _ _ hb.drew).mono ?_
          rintro e w' ⟨rfl, rfl⟩
          go_wp2
          go_ret
          exact ⟨by simp, hbel.drew.drew⟩
      · have d1 : decide (k < len2) = true := by simp; omega
        have d2 : decide (k < len3) = false := by simp; omega
        go_wp2_with (go_at_call 11; refine (num_any _ _).mono ?_; rintro e w' ⟨rfl, rfl⟩)
        refine (qgood pa ra g 100 _ _ ha).mono ?_
        rintro e w' ⟨rfl, rfl⟩
        go_wp2_with fail
        refine (qgood pb rb g 100 _ _ hb.drew).mono ?_
        rintro e w' ⟨rfl, rfl⟩
        go_wp2
        go_ret
        exact ⟨by simp, hbel.drew.drew⟩
    · have d1 : decide (k < len2) = false := by simp; omega
      go_wp2_with (go_at_call 11; refine (num_any _ _).mono ?_; rintro e w' ⟨rfl, rfl⟩)
      refine (qgood pa ra g 100 _ _ ha).mono ?_
      rintro e w' ⟨rfl, rfl⟩
      go_wp2_with fail
      refine (qgood pb rb g 100 _ _ hb.drew).mono ?_
      rintro e w' ⟨rfl, rfl⟩
      go_wp2
      go_ret
      exact ⟨by simp, hbel.drew.drew⟩

/- The row's step. -/
set_option maxRecDepth 100000 in
theorem lifted (os : Os) (started : os.Started) (H : Type) (enc : TypeId × Value → H) :
    ReturnsInHanded {} Try.checked os 8 .any (Rows.qualityTwinsSpec.pre6 enc Try.prog Try.f8 Rows.qualityTwinsRow.domain false) (Rows.qualityTwinsSpec.post enc Try.prog Try.f8 false true false false) := by
  refine returnsInHanded_of_change (C := Try.checked) own started (by kernel_rfl) Try.func8
    (ChangeSpec.witness6 (enc := enc) (C := Try.checked) false ⟨#[], #[.int .i64 0, .int .i64 0, .slice none 0 0, .slice none 0 0], []⟩ 8 (by kernel_rfl) (by kernel_rfl) (by kernel_rfl) (by kernel_rfl)) ?_
  intro W base args ds gs before hval0 hW hcnd _
  have hval : ∀ (j : Nat) t v, Try.f8.params[j]? = some t → args[j]? = some v → Value.okWide Try.prog W .any base t v := hval0
  have hW' := hW
  obtain ⟨p, q, hA0, hV, rfl, hfz, hnd⟩ := hW
  have hA : DataW.TrodAll enc Try.prog W 0 (fun _ => true) true Try.f8.params.toList args.toList ds p := hA0
  rw [Try.params8] at hA hval
  obtain ⟨v0, vs0, d0, ds0, p0, q0, hargs, rfl, rfl, h0, r0⟩ := trodAll_cons hA
  obtain ⟨v1, vs1, d1, ds1, p1, q1, rfl, rfl, rfl, h1, r1⟩ := trodAll_cons r0
  obtain ⟨v2, vs2, d2, ds2, p2, q2, rfl, rfl, rfl, h2, r2⟩ := trodAll_cons r1
  obtain ⟨v3, vs3, d3, ds3, p3, q3, rfl, rfl, rfl, h3, r3⟩ := trodAll_cons r2
  obtain ⟨rfl, rfl, rfl⟩ := trodAll_nil r3
  obtain rfl : args = #[v0, v1, v2, v3] := by cases args; simp_all
  obtain ⟨rfl, rfl⟩ := trodVars_none hV
  obtain ⟨a0, rfl, rfl, rfl, w0⟩ := open_int Try.underlying3 (hval 0 3 v0 rfl rfl) h0
  obtain ⟨a1, rfl, rfl, rfl, w1⟩ := open_int Try.underlying3 (hval 1 3 v1 rfl rfl) h1
  obtain ⟨a2, len2, cap2, rfl⟩ := okWide_slice Try.underlying22 (hval 2 22 v2 rfl rfl)
  have k2 := h2
  have lt2 : ∀ x ∈ p2, x.block < W.heap.size := by obtain ⟨m, hm⟩ := k2; exact DataW.trod_lt m _ _ _ hm
  obtain ⟨z2, w2⟩ : ∃ zs, IsRow .i64 W a2 len2 cap2 zs := by
    obtain ⟨fuel, hf⟩ := h2
    rcases open_ints Try.underlying22 Try.underlying3 (by kernel_rfl) hf with ⟨hcs, _⟩ | ⟨x, l, c, zs, hcs, _, hl, hm, hz, _, hcell, hwz⟩
    · simp [Value.cells] at hcs
      obtain ⟨rfl, rfl, rfl⟩ := hcs
      exact ⟨[], .inl ⟨rfl, rfl, rfl, rfl⟩⟩
    · simp [Value.cells] at hcs
      obtain ⟨rfl, rfl, rfl⟩ := hcs
      exact ⟨zs, .inr ⟨_, rfl, hl, hm, by simpa using hz, hcell, hwz⟩⟩
  obtain ⟨a3, len3, cap3, rfl⟩ := okWide_slice Try.underlying22 (hval 3 22 v3 rfl rfl)
  have k3 := h3
  have lt3 : ∀ x ∈ p3, x.block < W.heap.size := by obtain ⟨m, hm⟩ := k3; exact DataW.trod_lt m _ _ _ hm
  obtain ⟨z3, w3⟩ : ∃ zs, IsRow .i64 W a3 len3 cap3 zs := by
    obtain ⟨fuel, hf⟩ := h3
    rcases open_ints Try.underlying22 Try.underlying3 (by kernel_rfl) hf with ⟨hcs, _⟩ | ⟨x, l, c, zs, hcs, _, hl, hm, hz, _, hcell, hwz⟩
    · simp [Value.cells] at hcs
      obtain ⟨rfl, rfl, rfl⟩ := hcs
      exact ⟨[], .inl ⟨rfl, rfl, rfl, rfl⟩⟩
    · simp [Value.cells] at hcs
      obtain ⟨rfl, rfl, rfl⟩ := hcs
      exact ⟨zs, .inr ⟨_, rfl, hl, hm, by simpa using hz, hcell, hwz⟩⟩
  clear hA0 hval0
  refine (walk a0 a1 a2 len2 cap2 z2 a3 len3 cap3 z3 W w0 w1 w2 w3).mono fun e W' ⟨he, bel⟩ => ?_
  subst he
  exact ⟨_, rfl, _, _, _, [], _, [], hW', trodAll_mk1 (shut_bool Try.underlying4 _), (trodAll_cons_mk (shut_int Try.underlying3 w0) (trodAll_cons_mk (shut_int Try.underlying3 w1) (trodAll_cons_mk (Below.trod laidOut (by kernel_rfl) (of_decide_eq_true (by kernel_rfl)) k2 bel lt2) (trodAll_cons_mk (Below.trod laidOut (by kernel_rfl) (of_decide_eq_true (by kernel_rfl)) k3 bel lt3) trodAll_mk0)))), rfl, bel.frame _, fun h => by cases h⟩

theorem over : Rows.qualityTwinsRow.holds Try.pinned (OpenSpec.ofChange Rows.qualityTwinsSpec) :=
  OpenClaim.holds_of_wide 8 Try.f8 rfl rfl rfl rfl rfl rfl rfl ⟨rfl, rfl, rfl, rfl, rfl⟩ rfl rfl rfl rfl rfl (by kernel_rfl) Try.func8 (by kernel_rfl)
    (of_decide_eq_true (by kernel_rfl)) (by unfold Func.isWrapper; first | (rw [if_pos (by decide +kernel)]; kernel_rfl) | (rw [if_neg (by decide +kernel)]; exact ⟨rfl, rfl⟩))
    (fun os started H enc _ => lifted os started H enc)

/-- The statement. -/
theorem proved : Rows.QualityTwinsSaid := over
#print axioms proved
end Go.Proofs.Ytkmoakbebpibdaa.qualityTwins

/- Proved here: withylaw17.QualityEnds returns true for every input and leaves its arguments as they were (the given statement Rows.QualityEndsSaid). Conditions: none. -/
import Derived.Test.YtkmoakbebpibdaaRows
import Derived.Test.YtkmoakbebpibdaaCon
import Derived.Test.YtkmoakbebpibdaaMask
import Derived.WalkKit
import Derived.ProofKit
import Derived.OpenShut
import Derived.ShutString
import Derived.ChangeOld
import Derived.Below
namespace Go.Proofs.Ytkmoakbebpibdaa.qualityEnds
open Go.ChangeShapes Go.WideShapes Go.ChangeAt Go.RowKit
open Plain
open Go.ChangeMaps (open_string shut_string)
set_option linter.unusedVariables false

theorem own : ownKnob Try.prog.godebug = none := by kernel_rfl
theorem laidOut : laidOutB Try.prog = true := by kernel_rfl

/-- WHAT THE WALK IS TOLD OF A SLICE OF INTEGERS THAT CAME IN: it is nil; or it leads to a row of 'cap' cells, the numbers 'zs' (the first 'len' are its elements, the rest its spare room), each fitting its kind. -/
def IsRow (k : IntKind) (w : World) (a : Option Addr) (len cap : Nat) (zs : List Int) : Prop :=
  (a = none ∧ len = 0 ∧ cap = 0 ∧ zs = []) ∨
  ∃ x, a = some x ∧ len ≤ cap ∧ cap ≤ maxLen ∧ zs.length = cap ∧ (∀ i, i < zs.length → w.cell? (x.add i) = some (.int k (zs.getD i 0))) ∧ ∀ n ∈ zs, (Lit.int k n).wf = true

/-- an element of a row that came in. -/
theorem row_at {w : World} {a : Option Addr} {len cap : Nat} {zs : List Int} (h : IsRow .i64 w a len cap zs) (i : Nat) (hi : i < len) :
    ∃ b off, a = some ⟨b, off, none⟩ ∧ b < w.heap.size ∧ w.cell? ⟨b, off + i, none⟩ = some (.int .i64 (zs.getD i 0)) ∧ -9223372036854775808 ≤ zs.getD i 0 ∧ zs.getD i 0 ≤ 9223372036854775807 := by
  rcases h with ⟨_, rfl, _, _⟩ | ⟨x, rfl, hl, hm, hz, hcell, hwz⟩
  · omega
  · have hc := hcell i (by omega)
    obtain ⟨b, off, spot⟩ := x
    have hc0 := hcell 0 (by omega)
    have hspot : spot = none := by simpa [Addr.add] using World.cell?_spot hc0
    subst hspot
    rw [Addr.add_lit] at hc
    have hb := bounds_i64 (hwz (zs.getD i 0) (by rw [show zs.getD i 0 = zs[i]'(by omega) from by simp [List.getD, show i < zs.length by omega]]; exact List.getElem_mem _))
    exact ⟨b, off, rfl, World.block_lt_of_cell? w _ hc, hc, hb.1, hb.2⟩
theorem row_len {w : World} {a : Option Addr} {len cap : Nat} {zs : List Int} (h : IsRow .i64 w a len cap zs) : len ≤ 9223372036854775807 := by
  rcases h with ⟨_, rfl, _, _⟩ | ⟨x, rfl, hl, hm, _⟩
  · omega
  · unfold maxLen at hm; omega

theorem ends_a (W : List (Int × Int)) (s : Int) (h : ∀ x ∈ W, x.1 = x.2) : ∀ x ∈ W.tail ++ [(s, s)], x.1 = x.2 := by
  intro x hx
  rw [List.mem_append] at hx
  rcases hx with hx | hx
  · exact h x (List.mem_of_mem_tail hx)
  · simp at hx; subst hx; rfl
theorem ends_b (W : List (Int × Int)) (s : Int) (h : ∀ x ∈ W, x.2 = 0) : ∀ x ∈ W.tail ++ [(s, 0)], x.2 = 0 := by
  intro x hx
  rw [List.mem_append] at hx
  rcases hx with hx | hx
  · exact h x (List.mem_of_mem_tail hx)
  · simp at hx; subst hx; rfl
theorem s_eq (W : List (Int × Int)) (h : ∀ x ∈ W, x.1 = x.2) : s1 W = s2 W := by
  induction W with
  | nil => rfl
  | cons x W ih => simp only [s1, s2]; rw [h x (by simp), ih (fun y hy => h y (by simp [hy]))]
theorem s2_nil (W : List (Int × Int)) (h : ∀ x ∈ W, x.2 = 0) : s2 W = 0 := by
  induction W with
  | nil => rfl
  | cons x W ih => simp only [s2]; rw [h x (by simp), ih (fun y hy => h y (by simp [hy]))]; rfl
theorem s1_pos (W : List (Int × Int)) (s : Int) (hs : 1 ≤ s) (h : ∀ x ∈ W, Ok x) : 1 ≤ s1 (W.tail ++ [(s, 0)]) := by
  rw [s1_append]
  have := s_bd W.tail (fun x hx => h x (List.mem_of_mem_tail hx))
  simp [s1]; omega
theorem gd_a (g : Int) (W : List (Int × Int)) (h : ∀ x ∈ W, x.1 = x.2) (hok : ∀ x ∈ W, Ok x) (h0 : 0 ≤ g) (h1 : g ≤ 100) : gd g 100 W = true := by
  unfold gd
  rw [s_eq W h]
  have := s_bd W hok
  simp
  exact Int.mul_le_mul_of_nonneg_left h1 (by omega)
theorem gd_b (g : Int) (W : List (Int × Int)) (i : Nat) (h : ∀ x ∈ W, x.2 = 0) (h0 : 0 ≤ g) (hi : i = 0 ∧ s1 W = 0 ∨ 0 < i ∧ 1 ≤ s1 W) : gd g 100 W = (decide (i = 0) || decide (g = 0)) := by
  unfold gd
  rw [s2_nil W h]
  rcases hi with ⟨rfl, e⟩ | ⟨hi, e⟩
  · simp [e]
  · have hi' : ¬ i = 0 := by omega
    by_cases hg : g = 0
    · simp [hg]
    · have : 1 ≤ s1 W * g := by
        have := Int.mul_le_mul e (show 1 ≤ g by omega) (by omega) (by omega)
        omega
      simp [hi', hg]; omega
/- The walk: the law's text returns true. -/
set_option maxRecDepth 100000 in
set_option maxHeartbeats 2000000 in
theorem walk (a0 : Int) (a1 : Int) (a2 : Option Addr) (len2 cap2 : Nat) (z2 : List Int) (w : World) (w0 : (Lit.int .i64 a0).wf = true) (w1 : (Lit.int .i64 a1).wf = true) (w2 : IsRow .i64 w a2 len2 cap2 z2) :
    Calls Try.prog 4 #[.int .i64 a0, .int .i64 a1, .slice a2 len2 cap2] w fun e w' => e = .returned (.bool true) ∧ Below w.heap.size w w' := by
  have q1 := u64_nonneg a1
  have m0 := and_31 a0
  have hlen := row_len w2
  clear w0 w1
  go_enter Try.func4, Try.ntmps4
  go_wp2_with fail
  refine (awake_any w).mono ?_
  rintro e wa ⟨rfl, O0⟩
  go_wp2_with fail
  have r0 : 0 ≤ a0 % 32 ∧ a0 % 32 < 32 := by omega
  have r1 : 0 ≤ IntKind.u64.wrap a1 % 101 ∧ IntKind.u64.wrap a1 % 101 < 101 := by omega
  clear m0
  generalize a0 % 32 = n at *
  generalize IntKind.u64.wrap a1 % 101 = g at *
  generalize IntKind.u64.wrap a1 = y1 at *
  obtain ⟨r01, r02⟩ := r0
  obtain ⟨r11, r12⟩ := r1
  refine (qnew (1 + n) g 100 wa (by omega) (by omega) (by omega) (by omega) (by omega) (by omega)).mono ?_
  rintro e wb ⟨pa, ra, rfl, hqa, O1, hpa, hra⟩
  go_wp2_with fail
  refine (qnew (1 + n) g 100 wb (by omega) (by omega) (by omega) (by omega) (by omega) (by omega)).mono ?_
  rintro e wc ⟨pb, rb, rfl, hqb, O2, hpb, hrb⟩
  have hqa2 := hqa.only O2 (by simp) (by simp)
  have O3 : Only [] w wc := (O0.trans O1).trans O2
  have s0 := O0.size
  have s1' := O1.size
  have hla := hqa.lt
  obtain ⟨hla1, hla2⟩ := hla
  have HN : Hid (List.replicate (1 + n).toNat ((0 : Int), (0 : Int)) = List.replicate (1 + n).toNat (0, 0)) := rfl
  have z1 : ∀ x ∈ List.replicate (1 + n).toNat ((0 : Int), (0 : Int)), x.1 = x.2 := fun x hx => by rw [List.eq_of_mem_replicate hx]
  have z2 : ∀ x ∈ List.replicate (1 + n).toNat ((0 : Int), (0 : Int)), x.2 = 0 := fun x hx => by rw [List.eq_of_mem_replicate hx]
  have z3 := s1_zero (1 + n).toNat
  generalize List.replicate (1 + n).toNat ((0 : Int), (0 : Int)) = W0 at *
  have B0 : Below w.heap.size w wc := O3.below _ (Nat.le_refl _) (by simp)
  have Z1 : Hid (∀ x ∈ W0, x.1 = x.2) := z1
  have Z2 : Hid (∀ x ∈ W0, x.2 = 0) := z2
  have Z3 : Hid (s1 W0 = 0) := z3
  clear hqa O0 O1 O2 O3 HN z1 z2 z3
  go_wp2
  go_loopw [13, 14] (fun c i wr => ∃ (k : Nat) (Wa Wb : List (Int × Int)), k ≤ len2 ∧ k ≤ 60 ∧ i = .int .i64 k ∧ c = .int .i64 k ∧ QA wr pa ra g 100 Wa ∧ QA wr pb rb g 100 Wb ∧ (∀ x ∈ Wa, x.1 = x.2) ∧ (∀ x ∈ Wb, x.2 = 0) ∧ (k = 0 ∧ s1 Wb = 0 ∨ 0 < k ∧ 1 ≤ s1 Wb) ∧ Below w.heap.size w wr) (fun _ i _ => 60 - (intOf i).toNat)
  case atStart => exact ⟨0, W0, W0, Nat.zero_le _, by omega, rfl, rfl, hqa2, hqb, Z1.out, Z2.out, .inl ⟨rfl, Z3.out⟩, B0⟩
  case round =>
    obtain ⟨k, Wa, Wb, hk, hk60, rfl, rfl, ha, hb, ia, ib, is, hbel⟩ := hrel
    have IA : Hid (∀ x ∈ Wa, x.1 = x.2) := ia
    have IB : Hid (∀ x ∈ Wb, x.2 = 0) := ib
    have IS : Hid (k = 0 ∧ s1 Wb = 0 ∨ 0 < k ∧ 1 ≤ s1 Wb) := is
    clear ia ib is hqa2 hqb Z1 Z2 Z3 B0
    by_cases hlt : k < len2 ∧ k < 60
    · obtain ⟨hl1, hl2⟩ := hlt
      obtain ⟨b, off, rfl, hbl, hc, hz1, hz2⟩ := row_at w2 k hl1
      have hcr : wr.cell? ⟨b, off + k, none⟩ = some (.int .i64 (z2.getD k 0)) := (hbel.cell hbl).trans hc
      generalize z2.getD k 0 = y at *
      have m1 := and_4095 y
      have d1 : decide (k < len2) = true := by simp; omega
      have d2 : decide ((k : Int) < 60) = true := by simp; omega
      clear hc
      go_wp2_with fail
      have r2 : 0 ≤ y % 4096 ∧ y % 4096 < 4096 := by omega
      obtain ⟨r21, r22⟩ := r2
      clear m1 hcr
      generalize y % 4096 = s at *
      refine (qadd pa ra g 100 (1 + s) (1 + s) Wa wr ha (by omega) (by omega) (by omega)).mono ?_
      rintro e w1 ⟨rfl, ha1, Oa⟩
      have hb1 := hb.only Oa (by simp; omega) (by simp; omega)
      have la := ha.lt
      have lb := hb.lt
      have B1 : Below w.heap.size w w1 := hbel.trans (Oa.below _ hbel.size (by simp; omega))
      clear hb Oa
      go_wp2_with fail
      refine (qadd pb rb g 100 (1 + s) 0 Wb w1 hb1 (by omega) (by omega) (by omega)).mono ?_
      rintro e w2' ⟨rfl, hb2, Ob⟩
      have ha2 := ha1.only Ob (by simp; omega) (by simp; omega)
      have B2 : Below w.heap.size w w2' := B1.trans (Ob.below _ B1.size (by simp; omega))
      have okb := hb1.ok
      have OKB : Hid (∀ x ∈ Wb, Ok x) := okb
      clear ha ha1 hb1 okb Ob B1 hbel d1 d2
      go_wp2_with (go_at_call 11; refine (num_any _ _).mono ?_; rintro e w' ⟨rfl, rfl⟩)
      go_roundw
      case rel => exact ⟨k + 1, _, _, by omega, by omega, by go_num, by go_num, ha2, hb2, ends_a _ _ IA.out, ends_b _ _ IB.out, .inr ⟨by omega, s1_pos _ _ (by omega) OKB.out⟩, B2⟩
      case measure => simp [intOf]; omega
    · have GA : gd g 100 Wa = true := gd_a g Wa IA.out ha.ok (by omega) (by omega)
      have GB := gd_b g Wb k IB.out (by omega) IS.out
      by_cases hl : k < len2
      · by_cases hgz : g = 0
        · skip
          have d1 : decide (k < len2) = true := by simp; omega
          have d2 : decide ((k : Int) < 60) = false := by simp; omega
          have hk0 : ((k : Int) == 0) = false := by simp; omega
          have hk1 : decide (k = 0) = false := by simp; omega
          rw [hk1, Bool.false_or] at GB
          clear hk1
          have hg1 : decide (g = 0) = true := by simp; omega
          rw [hg1] at GB
          have hg : (g == 0) = true := by simp; omega
          clear hg1 hgz
          clear hlt
          go_wp2_with (go_at_call 11; refine (num_any _ _).mono ?_; rintro e w' ⟨rfl, rfl⟩)
          refine (qgood pa ra g 100 _ _ ha).mono ?_
          rintro e w' ⟨rfl, rfl⟩
          go_wp2_with fail
          refine (qgood pb rb g 100 _ _ hb.drew).mono ?_
          rintro e w' ⟨rfl, rfl⟩
          go_wp2
          go_ret
          exact ⟨rfl, hbel.drew.drew⟩
        · skip
          have d1 : decide (k < len2) = true := by simp; omega
          have d2 : decide ((k : Int) < 60) = false := by simp; omega
          have hk0 : ((k : Int) == 0) = false := by simp; omega
          have hk1 : decide (k = 0) = false := by simp; omega
          rw [hk1, Bool.false_or] at GB
          clear hk1
          have hg1 : decide (g = 0) = false := by simp; omega
          rw [hg1] at GB
          have hg : (g == 0) = false := by simp; omega
          clear hg1 hgz
          clear hlt
          go_wp2_with (go_at_call 11; refine (num_any _ _).mono ?_; rintro e w' ⟨rfl, rfl⟩)
          refine (qgood pa ra g 100 _ _ ha).mono ?_
          rintro e w' ⟨rfl, rfl⟩
          go_wp2_with fail
          refine (qgood pb rb g 100 _ _ hb.drew).mono ?_
          rintro e w' ⟨rfl, rfl⟩
          go_wp2
          go_ret
          exact ⟨rfl, hbel.drew.drew⟩
      · by_cases hkz : k = 0
        · skip
          have d1 : decide (k < len2) = false := by simp; omega
          have hk0 : ((k : Int) == 0) = true := by simp; omega
          have hk1 : decide (k = 0) = true := by simp; omega
          rw [hk1, Bool.true_or] at GB
          clear hk1 hkz
          clear hlt
          go_wp2_with (go_at_call 11; refine (num_any _ _).mono ?_; rintro e w' ⟨rfl, rfl⟩)
          refine (qgood pa ra g 100 _ _ ha).mono ?_
          rintro e w' ⟨rfl, rfl⟩
          go_wp2_with fail
          refine (qgood pb rb g 100 _ _ hb.drew).mono ?_
          rintro e w' ⟨rfl, rfl⟩
          go_wp2
          go_ret
          exact ⟨rfl, hbel.drew.drew⟩
        · by_cases hgz : g = 0
          · skip
            have d1 : decide (k < len2) = false := by simp; omega
            have hk0 : ((k : Int) == 0) = false := by simp; omega
            have hk1 : decide (k = 0) = false := by simp; omega
            rw [hk1, Bool.false_or] at GB
            clear hk1
            clear hkz
            have hg1 : decide (g = 0) = true := by simp; omega
            rw [hg1] at GB
            have hg : (g == 0) = true := by simp; omega
            clear hg1 hgz
            clear hlt
            go_wp2_with (go_at_call 11; refine (num_any _ _).mono ?_; rintro e w' ⟨rfl, rfl⟩)
            refine (qgood pa ra g 100 _ _ ha).mono ?_
            rintro e w' ⟨rfl, rfl⟩
            go_wp2_with fail
            refine (qgood pb rb g 100 _ _ hb.drew).mono ?_
            rintro e w' ⟨rfl, rfl⟩
            go_wp2
            go_ret
            exact ⟨rfl, hbel.drew.drew⟩
          · skip
            have d1 : decide (k < len2) = false := by simp; omega
            have hk0 : ((k : Int) == 0) = false := by simp; omega
            have hk1 : decide (k = 0) = false := by simp; omega
            rw [hk1, Bool.false_or] at GB
            clear hk1
            clear hkz
            have hg1 : decide (g = 0) = false := by simp; omega
            rw [hg1] at GB
            have hg : (g == 0) = false := by simp; omega
            clear hg1 hgz
            clear hlt
            go_wp2_with (go_at_call 11; refine (num_any _ _).mono ?_; rintro e w' ⟨rfl, rfl⟩)
            refine (qgood pa ra g 100 _ _ ha).mono ?_
            rintro e w' ⟨rfl, rfl⟩
            go_wp2_with fail
            refine (qgood pb rb g 100 _ _ hb.drew).mono ?_
            rintro e w' ⟨rfl, rfl⟩
            go_wp2
            go_ret
            exact ⟨rfl, hbel.drew.drew⟩

/- The row's step. -/
set_option maxRecDepth 100000 in
theorem lifted (os : Os) (started : os.Started) (H : Type) (enc : TypeId × Value → H) :
    ReturnsInHanded {} Try.checked os 4 .any (Rows.qualityEndsSpec.pre6 enc Try.prog Try.f4 Rows.qualityEndsRow.domain false) (Rows.qualityEndsSpec.post enc Try.prog Try.f4 false true false false) := by
  refine returnsInHanded_of_change (C := Try.checked) own started (by kernel_rfl) Try.func4
    (ChangeSpec.witness6 (enc := enc) (C := Try.checked) false ⟨#[], #[.int .i64 0, .int .i64 0, .slice none 0 0], []⟩ 8 (by kernel_rfl) (by kernel_rfl) (by kernel_rfl) (by kernel_rfl)) ?_
  intro W base args ds gs before hval0 hW hcnd _
  have hval : ∀ (j : Nat) t v, Try.f4.params[j]? = some t → args[j]? = some v → Value.okWide Try.prog W .any base t v := hval0
  have hW' := hW
  obtain ⟨p, q, hA0, hV, rfl, hfz, hnd⟩ := hW
  have hA : DataW.TrodAll enc Try.prog W 0 (fun _ => true) true Try.f4.params.toList args.toList ds p := hA0
  rw [Try.params4] at hA hval
  obtain ⟨v0, vs0, d0, ds0, p0, q0, hargs, rfl, rfl, h0, r0⟩ := trodAll_cons hA
  obtain ⟨v1, vs1, d1, ds1, p1, q1, rfl, rfl, rfl, h1, r1⟩ := trodAll_cons r0
  obtain ⟨v2, vs2, d2, ds2, p2, q2, rfl, rfl, rfl, h2, r2⟩ := trodAll_cons r1
  obtain ⟨rfl, rfl, rfl⟩ := trodAll_nil r2
  obtain rfl : args = #[v0, v1, v2] := by cases args; simp_all
  obtain ⟨rfl, rfl⟩ := trodVars_none hV
  obtain ⟨a0, rfl, rfl, rfl, w0⟩ := open_int Try.underlying3 (hval 0 3 v0 rfl rfl) h0
  obtain ⟨a1, rfl, rfl, rfl, w1⟩ := open_int Try.underlying3 (hval 1 3 v1 rfl rfl) h1
  obtain ⟨a2, len2, cap2, rfl⟩ := okWide_slice Try.underlying22 (hval 2 22 v2 rfl rfl)
  have k2 := h2
  have lt2 : ∀ x ∈ p2, x.block < W.heap.size := by obtain ⟨m, hm⟩ := k2; exact DataW.trod_lt m _ _ _ hm
  obtain ⟨z2, w2⟩ : ∃ zs, IsRow .i64 W a2 len2 cap2 zs := by
    obtain ⟨fuel, hf⟩ := h2
    rcases open_ints Try.underlying22 Try.underlying3 (by kernel_rfl) hf with ⟨hcs, _⟩ | ⟨x, l, c, zs, hcs, _, hl, hm, hz, _, hcell, hwz⟩
    · simp [Value.cells] at hcs
      obtain ⟨rfl, rfl, rfl⟩ := hcs
      exact ⟨[], .inl ⟨rfl, rfl, rfl, rfl⟩⟩
    · simp [Value.cells] at hcs
      obtain ⟨rfl, rfl, rfl⟩ := hcs
      exact ⟨zs, .inr ⟨_, rfl, hl, hm, by simpa using hz, hcell, hwz⟩⟩
  clear hA0 hval0
  refine (walk a0 a1 a2 len2 cap2 z2 W w0 w1 w2).mono fun e W' ⟨he, bel⟩ => ?_
  subst he
  exact ⟨_, rfl, _, _, _, [], _, [], hW', trodAll_mk1 (shut_bool Try.underlying4 _), (trodAll_cons_mk (shut_int Try.underlying3 w0) (trodAll_cons_mk (shut_int Try.underlying3 w1) (trodAll_cons_mk (Below.trod laidOut (by kernel_rfl) (of_decide_eq_true (by kernel_rfl)) k2 bel lt2) trodAll_mk0))), rfl, bel.frame _, fun h => by cases h⟩

theorem over : Rows.qualityEndsRow.holds Try.pinned (OpenSpec.ofChange Rows.qualityEndsSpec) :=
  OpenClaim.holds_of_wide 4 Try.f4 rfl rfl rfl rfl rfl rfl rfl ⟨rfl, rfl, rfl, rfl, rfl⟩ rfl rfl rfl rfl rfl (by kernel_rfl) Try.func4 (by kernel_rfl)
    (of_decide_eq_true (by kernel_rfl)) (by unfold Func.isWrapper; first | (rw [if_pos (by decide +kernel)]; kernel_rfl) | (rw [if_neg (by decide +kernel)]; exact ⟨rfl, rfl⟩))
    (fun os started H enc _ => lifted os started H enc)

/-- The statement. -/
theorem proved : Rows.QualityEndsSaid := over
#print axioms proved
end Go.Proofs.Ytkmoakbebpibdaa.qualityEnds

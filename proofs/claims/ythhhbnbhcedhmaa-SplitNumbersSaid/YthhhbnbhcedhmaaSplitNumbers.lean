/- Proved here: withylaw18.SplitNumbers returns true for every input and leaves its arguments as they were (the given statement Rows.SplitNumbersSaid). Conditions: none. -/
import Derived.Test.YthhhbnbhcedhmaaRows
import Derived.Test.YthhhbnbhcedhmaaAwake
import Derived.Test.YthhhbnbhcedhmaaMask
import Derived.Test.YthhhbnbhcedhmaaBase2
import Derived.WalkKit
import Derived.Lib.Hide
import Derived.Outline
import Derived.StillTactics
import Derived.SizedLaws
import Derived.ProofKit
import Derived.OpenShut
import Derived.ShutString
namespace Go.Proofs.Ythhhbnbhcedhmaa.splitNumbers
open Go.ChangeShapes Go.WideShapes Go.ChangeAt Go.RowKit
open Plain
open Go.ChangeMaps (open_string shut_string)
set_option linter.unusedVariables false      -- a walk need not use every 'w<i>' (that an integer argument fits its kind)

theorem own : ownKnob Try.prog.godebug = none := by kernel_rfl

theorem num_still (n : Int) (w : World) : Calls Try.prog 12 #[.int .i64 n] w fun e w' => e = .returned (.int .i64 n) ∧ w' = w := (num_any n w).mono fun _ _ ⟨a, b⟩ => ⟨a, b.symm⟩
theorem sizeA (a : ByteArray) : (a ++ ⟨#[97]⟩ : ByteArray).size = a.size + 1 := by rw [ByteArray.size_append]; rfl
theorem sizeB (a : ByteArray) : (a ++ ⟨#[98]⟩ : ByteArray).size = a.size + 1 := by rw [ByteArray.size_append]; rfl
/-- a packet of at most 200 bytes in fragments of one size. -/
theorem cut_k (s : ByteArray) (k q R : Int) (short : Bool) (w : World) (hR : ring short = R) (h1 : 1 ≤ s.size) (h2 : s.size ≤ 200) (h3 : 4 ≤ k) (h4 : k ≤ 35) (h5 : 0 ≤ q) (h6 : q < R) :
    Calls Try.prog 9 #[.string s, .slice (some ⟨w.heap.size, 0, none⟩) 1 1, .int .i64 q, .bool short] (w.alloc (.cells #[.int .i64 k] 3)) fun e w' =>
      ∃ (n g off cap : Nat), 1 ≤ n ∧ n ≤ 64 ∧ Hid (((s.size : Int) + k - 1) / k = (n : Int)) ∧ e = .returned (.tuple #[.slice (some ⟨g, off, none⟩) n cap, .int .i64 0]) ∧ Only [] w w' ∧ g < w'.heap.size ∧
        Hid (∀ i, i < n → w'.cell? ⟨g, off + i * 4 + 2, none⟩ = some (.int .i64 ((q + i) % R))) := by
  subst hR
  refine (cut_any s _ 1 1 (fun _ => k) q short _ (by omega) (Arr.one w k (by omega))).mono ?_
  rintro e w' ⟨ho, (⟨hb, _⟩ | ⟨_, n, ao, cap, hn64, hc, rfl, hsl, _⟩)⟩
  · have := (bad_one _ _ _ _).1 hb
    omega
  have hn := hc.unique (cuts_one s.size k (by omega))
  have h1' : 0 < (s.size + k.toNat - 1) / k.toNat := (ceil_lt _ _ _ (by omega)).2 (by omega)
  rw [← hn] at h1'
  obtain ⟨g, off, rfl⟩ := hsl.some (by omega)
  have D : ((s.size : Int) + k - 1) / k = (n : Int) := by
    rw [hn, Int.natCast_ediv, show (((s.size + k.toNat - 1 : Nat)) : Int) = s.size + k - 1 by omega, Int.toNat_of_nonneg (by omega)]
  refine ⟨n, g, off, cap, h1', hn64, D, rfl, ((Only.refl _ _).alloc _).trans ho, hsl.lt rfl, fun i hi => ?_⟩
  have hl := frs_length s (fun _ => k) 1 q (ring short) n
  have hf := (flatF_get (frs s (fun _ => k) 1 q (ring short) n) i (by omega)).2.2.1
  rw [frs_get] at hf
  have := hsl.cells _ _ hf
  rw [← Nat.add_assoc] at this
  exact this

/- The walk: the law's text returns true. -/
set_option maxRecDepth 100000 in
set_option maxHeartbeats 2000000 in
theorem walk (a0 : ByteArray) (a1 : ByteArray) (a2 : Int) (a3 : Int) (a4 : Bool) (w0 : a0.size ≤ 140737488351232) (w1 : a1.size ≤ 140737488351232) (w2 : (Lit.int .i64 a2).wf = true) (w3 : (Lit.int .i64 a3).wf = true) (w : World) :
    Calls Try.prog 7 #[.string a0, .string a1, .int .i64 a2, .int .i64 a3, .bool a4] w fun e w' => e = .returned (.bool true) ∧ Below w.heap.size w w' := by
  have M0 := and_31 a2
  have M1 : 0 ≤ a2 % 32 := by omega
  have M2 : a2 % 32 ≤ 31 := by omega
  generalize a2 % 32 = ma at *
  have hs0 : a0.size + 1 ≤ 9223372036854775807 := by omega
  have hs1 : a1.size + 1 ≤ 9223372036854775807 := by omega
  have hR := ring_pos a4
  generalize hRR : ring a4 = R at hR
  have HR := Lib.hid hRR
  clear hRR
  obtain ⟨R1, R2⟩ := hR
  have U0 := u64_nonneg a3
  have E0 : 0 ≤ IntKind.u64.wrap a3 % R := Int.emod_nonneg _ (by omega)
  have E1 : IntKind.u64.wrap a3 % R < R := Int.emod_lt_of_pos _ R1
  by_cases c0 : 200 < (a0.size : Int) + 1
  · have d0 : decide (200 < (a0.size : Int) + 1) = true := by simp; omega
    go_enter Try.func7, Try.ntmps7
    go_wp2_with fail
    refine (awake_any w).mono ?_
    rintro e wa ⟨rfl, O0⟩
    go_wp2_with fail
    go_ret
    exact ⟨rfl, O0.below _ (Nat.le_refl _) (by simp)⟩
  have d0 : decide (200 < (a0.size : Int) + 1) = false := by simp; omega
  by_cases c1 : 200 < (a1.size : Int) + 1
  · have d1 : decide (200 < (a1.size : Int) + 1) = true := by simp; omega
    go_enter Try.func7, Try.ntmps7
    go_wp2_with fail
    refine (awake_any w).mono ?_
    rintro e wa ⟨rfl, O0⟩
    go_wp2_with fail
    go_ret
    exact ⟨rfl, O0.below _ (Nat.le_refl _) (by simp)⟩
  have d1 : decide (200 < (a1.size : Int) + 1) = false := by simp; omega
  go_enter Try.func7, Try.ntmps7
  go_wp2_with fail
  refine (awake_any w).mono ?_
  rintro e wa ⟨rfl, O0⟩
  go_wp2_with (go_at_call 16; refine (ring16 _ _).mono ?_; rw [HR.out]; rintro e w' ⟨rfl, rfl⟩)
  generalize IntKind.u64.wrap a3 % R = q at *
  refine (cut_k _ (4 + ma) q R a4 wa HR.out (by rw [sizeA]; omega) (by rw [sizeA]; omega) (by omega) (by omega) E0 E1).mono ?_
  rintro e wb ⟨n, g, off, cap, n1, n2, D0, rfl, O1, hg, HC⟩
  have O2 := O0.trans O1
  have cl := HC.out (n - 1) (by omega)
  clear O0 O1 M0 U0
  generalize World.alloc _ _ = wx at *
  have p0 : 0 ≤ (q + ((n - 1 : Nat) : Int)) % R := Int.emod_nonneg _ (by omega)
  have p1 : (q + ((n - 1 : Nat) : Int)) % R < R := Int.emod_lt_of_pos _ R1
  obtain ⟨p, hp⟩ : ∃ p, (q + ((n - 1 : Nat) : Int)) % R = p := ⟨_, rfl⟩
  have HPP := Lib.hid hp
  rw [hp] at cl p0 p1
  clear hp
  have hn0 : ((n : Int) == 0) = false := by simp; omega
  have hi0 : (0 : Int) ≤ (n : Int) - 1 := by omega
  have hi1 : (n : Int) - 1 < (n : Int) := by omega
  go_wp2_with (go_at_call 12; refine (num_any _ _).mono ?_; rintro e w' ⟨rfl, rfl⟩)
  have P0 : 0 ≤ (p + 1) % R := Int.emod_nonneg _ (by omega)
  have P1 : (p + 1) % R < R := Int.emod_lt_of_pos _ R1
  have HQ : Hid (∀ i : Nat, ((p + 1) % R + i) % R = (q + n + i) % R) := fun i => by
    rw [Int.emod_add_emod, ← HPP.out, Int.add_assoc, Int.emod_add_emod]
    congr 1
    omega
  generalize (p + 1) % R = q2 at *
  refine (cut_k _ (4 + ma) q2 R a4 wb HR.out (by rw [sizeB]; omega) (by rw [sizeB]; omega) (by omega) (by omega) P0 P1).mono ?_
  rintro e wc ⟨m, g2, off2, cap2, m1, m2, D1, rfl, O3, hg2, HC2⟩
  have O4 := O2.trans O3
  have HC' : Hid (∀ i, i < n → wc.cell? ⟨g, off + i * 4 + 2, none⟩ = some (.int .i64 ((q + i) % R))) := fun i hi => (World.cell?_of_block (O3.block g hg (by simp))).trans (HC.out i hi)
  have hgc : g < wc.heap.size := Nat.lt_of_lt_of_le hg O3.size
  have HC2' : Hid (∀ i, i < m → wc.cell? ⟨g2, off2 + i * 4 + 2, none⟩ = some (.int .i64 ((q + n + i) % R))) := fun i hi => by rw [HC2.out i hi, HQ.out i]
  have D0' : Hid (((a0.size : Int) + 1 + (4 + ma) - 1) / (4 + ma) = (n : Int)) := by have := D0.out; rw [sizeA] at this; exact this
  have D1' : Hid (((a1.size : Int) + 1 + (4 + ma) - 1) / (4 + ma) = (m : Int)) := by have := D1.out; rw [sizeB] at this; exact this
  clear O2 O3 HC HC2 HQ HPP hg D0 D1
  generalize World.alloc _ _ = wy at *
  go_wp2_with fail
  go_loopw [21] (fun i wr => ∃ k : Nat, k ≤ n ∧ i = .int .i64 k ∧ Only [] wc wr) (fun i _ => n - (intOf i).toNat)
  case atStart => exact ⟨0, Nat.zero_le _, rfl, Only.refl _ _⟩
  case round =>
    obtain ⟨k, hk, rfl, ho⟩ := hrel
    by_cases hlt : k < n
    · have hc : wr.cell? ⟨g, off + k * 4 + 2, none⟩ = some (.int .i64 ((q + k) % R)) := (World.cell?_of_block (ho.block g hgc (by simp))).trans (HC'.out k hlt)
      have kl : (k : Int) < (n : Int) := by omega
      have kd : decide (k < n) = true := by simp; omega
      go_wp2_with fail
      refine wp_region_reads mixed (by kernel_rfl) ?_
      repeat (refine wpStill_op rfl rfl (fun K hK => ?_); go_step; refine hK _ ?_; clear hK K)
      refine wpStill_nil ?_
      go_wp2
      go_roundw
      case rel => exact ⟨k+1, by omega, by go_num, ho.drew⟩
      case measure => simp [intOf]; omega
    · have kd : decide (k < n) = false := by simp; omega
      have O5 := O4.trans ho
      have HC3 : Hid (∀ i, i < m → wr.cell? ⟨g2, off2 + i * 4 + 2, none⟩ = some (.int .i64 ((q + n + i) % R))) := fun i hi => (World.cell?_of_block (ho.block g2 hg2 (by simp))).trans (HC2'.out i hi)
      have hg3 : g2 < wr.heap.size := Nat.lt_of_lt_of_le hg2 ho.size
      clear HC' HC2' O4 ho hgc hg2
      go_wp2_with fail
      clear kd hlt
      obtain ⟨wd, rfl⟩ : ∃ wd : World, wd = wr := ⟨_, rfl⟩
      go_loopw [22] (fun i wr => ∃ k : Nat, k ≤ m ∧ i = .int .i64 k ∧ Only [] wd wr) (fun i _ => m - (intOf i).toNat)
      case atStart => exact ⟨0, Nat.zero_le _, rfl, Only.refl _ _⟩
      case round =>
        obtain ⟨j, hj, rfl, ho⟩ := hrel
        by_cases hlt : j < m
        · have hc : wr.cell? ⟨g2, off2 + j * 4 + 2, none⟩ = some (.int .i64 ((q + n + j) % R)) := (World.cell?_of_block (ho.block g2 hg3 (by simp))).trans (HC3.out j hlt)
          have kl : (j : Int) < (m : Int) := by omega
          have kd : decide (j < m) = true := by simp; omega
          go_wp2_with fail
          refine wp_region_reads mixed (by kernel_rfl) ?_
          repeat (refine wpStill_op rfl rfl (fun K hK => ?_); go_step; refine hK _ ?_; clear hK K)
          refine wpStill_nil ?_
          go_wp2
          go_roundw
          case rel => exact ⟨j+1, by omega, by go_num, ho.drew⟩
          case measure => simp [intOf]; omega
        · have kd : decide (j < m) = false := by simp; omega
          have O6 := (O5.trans ho).drew
          clear O5 ho HC3
          go_wp2_with fail
          have e0 := D0'.out
          have e1 := D1'.out
          have s0 : (a0.size : Int) ≤ 200 := by omega
          have s1 : (a1.size : Int) ≤ 200 := by omega
          clear kd hlt
          refine wp_region_reads mixed (by kernel_rfl) ?_
          repeat (refine wpStill_op rfl rfl (fun K hK => ?_); go_step; refine hK _ ?_; clear hK K)
          still_call (num_still _ _)
          repeat (refine wpStill_op rfl rfl (fun K hK => ?_); go_step; refine hK _ ?_; clear hK K)
          refine wpStill_nil ?_
          go_wp2
          go_ret
          exact ⟨rfl, O6.below _ (Nat.le_refl _) (by simp)⟩

/- The row's step. -/
set_option maxRecDepth 100000 in
theorem lifted (os : Os) (started : os.Started) (H : Type) (enc : TypeId × Value → H) :
    ReturnsInHanded {} Try.checked os 7 .any (Rows.splitNumbersSpec.pre6 enc Try.prog Try.f7 Rows.splitNumbersRow.domain false) (Rows.splitNumbersSpec.post enc Try.prog Try.f7 false true false false) := by
  refine returnsInHanded_of_change_sized (C := Try.checked) own started (by kernel_rfl) Try.func7
    (ChangeSpec.witness6 (enc := enc) (C := Try.checked) false ⟨#[], #[.string ByteArray.empty, .string ByteArray.empty, .int .i64 0, .int .i64 0, .bool false], []⟩ 8 (by kernel_rfl) (by kernel_rfl) (by kernel_rfl) (by kernel_rfl)) ?_
  intro W base args ds gs before hval0 hW hcnd hsz _
  have hval : ∀ (j : Nat) t v, Try.f7.params[j]? = some t → args[j]? = some v → Value.okWide Try.prog W .any base t v := hval0
  have hW' := hW
  obtain ⟨p, q, hA0, hV, rfl, hfz, hnd⟩ := hW
  have hA : DataW.TrodAll enc Try.prog W 0 (fun _ => true) true Try.f7.params.toList args.toList ds p := hA0
  rw [Try.params7] at hA hval
  obtain ⟨v0, vs0, d0, ds0, p0, q0, hargs, rfl, rfl, h0, r0⟩ := trodAll_cons hA
  obtain ⟨v1, vs1, d1, ds1, p1, q1, rfl, rfl, rfl, h1, r1⟩ := trodAll_cons r0
  obtain ⟨v2, vs2, d2, ds2, p2, q2, rfl, rfl, rfl, h2, r2⟩ := trodAll_cons r1
  obtain ⟨v3, vs3, d3, ds3, p3, q3, rfl, rfl, rfl, h3, r3⟩ := trodAll_cons r2
  obtain ⟨v4, vs4, d4, ds4, p4, q4, rfl, rfl, rfl, h4, r4⟩ := trodAll_cons r3
  obtain ⟨rfl, rfl, rfl⟩ := trodAll_nil r4
  obtain rfl : args = #[v0, v1, v2, v3, v4] := by cases args; simp_all
  obtain ⟨rfl, rfl⟩ := trodVars_none hV
  obtain ⟨a0, rfl, rfl, rfl, w0⟩ := open_string Try.underlying9 (hval 0 9 v0 rfl rfl) h0
  obtain ⟨a1, rfl, rfl, rfl, w1⟩ := open_string Try.underlying9 (hval 1 9 v1 rfl rfl) h1
  obtain ⟨a2, rfl, rfl, rfl, w2⟩ := open_int Try.underlying3 (hval 2 3 v2 rfl rfl) h2
  obtain ⟨a3, rfl, rfl, rfl, w3⟩ := open_int Try.underlying3 (hval 3 3 v3 rfl rfl) h3
  obtain ⟨a4, rfl, rfl, rfl⟩ := open_bool Try.underlying4 (hval 4 4 v4 rfl rfl) h4
  have z0 : a0.size ≤ 140737488351232 := by have := sized_string hsz (j := 0) (t := 9) rfl rfl; simpa [reachBytes] using this
  have z1 : a1.size ≤ 140737488351232 := by have := sized_string hsz (j := 1) (t := 9) rfl rfl; simpa [reachBytes] using this
  clear hA0 hval0
  refine (walk a0 a1 a2 a3 a4 z0 z1 w2 w3 W).mono fun e W' ⟨he, hg⟩ => ?_
  subst he
  exact ⟨_, rfl, _, _, _, [], _, [], hW', (trodAll_cons_mk (shut_bool Try.underlying4 _) trodAll_mk0), (trodAll_cons_mk (shut_string Try.underlying9 w0) (trodAll_cons_mk (shut_string Try.underlying9 w1) (trodAll_cons_mk (shut_int Try.underlying3 w2) (trodAll_cons_mk (shut_int Try.underlying3 w3) (trodAll_cons_mk (shut_bool Try.underlying4 _) trodAll_mk0))))), rfl, hg.frame _, fun h => by cases h⟩

theorem over : Rows.splitNumbersRow.holds Try.pinned (OpenSpec.ofChange Rows.splitNumbersSpec) :=
  OpenClaim.holds_of_wide 7 Try.f7 rfl rfl rfl rfl rfl rfl rfl ⟨rfl, rfl, rfl, rfl, rfl⟩ rfl rfl rfl rfl rfl (by kernel_rfl) Try.func7 (by kernel_rfl)
    (of_decide_eq_true (by kernel_rfl)) (by unfold Func.isWrapper; first | (rw [if_pos (by decide +kernel)]; kernel_rfl) | (rw [if_neg (by decide +kernel)]; exact ⟨rfl, rfl⟩))
    (fun os started H enc _ => lifted os started H enc)

/-- The statement. -/
theorem proved : Rows.SplitNumbersSaid :=
  over
#print axioms proved
end Go.Proofs.Ythhhbnbhcedhmaa.splitNumbers

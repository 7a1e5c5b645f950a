/- Proved here: withylaw18.SplitWhole returns true for every input and leaves its arguments as they were (the given statement Rows.SplitWholeSaid). Conditions: none. -/
import Derived.Test.YthhhbnbhcedhmaaRows
import Derived.Test.YthhhbnbhcedhmaaAwake
import Derived.Test.YthhhbnbhcedhmaaMask
import Derived.Test.YthhhbnbhcedhmaaBase2
import Derived.WalkKit
import Derived.Lib.Hide
import Derived.Outline
import Derived.StillTactics
import Derived.ProofKit
import Derived.OpenShut
import Derived.ShutString
import Derived.ChangeOld
import Derived.Below
namespace Go.Proofs.Ythhhbnbhcedhmaa.splitWhole
open Go.ChangeShapes Go.WideShapes Go.ChangeAt Go.RowKit
open Plain
open Go.ChangeMaps (open_string shut_string)
set_option linter.unusedVariables false

theorem own : ownKnob Try.prog.godebug = none := by kernel_rfl
theorem laidOut : laidOutB Try.prog = true := by kernel_rfl

/-- WHAT THE WALK IS TOLD OF A SLICE OF INTEGERS THAT CAME IN: it is nil; or it leads to a row of 'cap' cells, the numbers 'zs' (the first 'len' are its elements, the rest its spare room), each fitting its kind. -/
def IsRow (k : IntKind) (w : World) (a : Option Addr) (len cap : Nat) (zs : List Int) : Prop :=
  (a = none ∧ len = 0 ∧ cap = 0 ∧ zs = []) ∨
  ∃ x, a = some x ∧ len ≤ cap ∧ cap ≤ maxLen ∧ zs.length = cap ∧ (∀ i, i < zs.length → w.cell? (x.add i) = some (.int k (zs.getD i 0))) ∧ ∀ n ∈ zs, (Lit.int k n).wf = true

theorem num_still (n : Int) (w : World) : Calls Try.prog 12 #[.int .i64 n] w fun e w' => e = .returned (.int .i64 n) ∧ w' = w := (num_any n w).mono fun _ _ ⟨a, b⟩ => ⟨a, b.symm⟩
theorem ring_R (b : Bool) (R : Int) (w : World) (h : ring b = R) : Calls Try.prog 16 #[.bool b] w fun e w' => e = .returned (.int .i64 R) ∧ w' = w := by subst h; exact (ring16 b w).mono fun _ _ ⟨a, b⟩ => ⟨a, b.symm⟩
/-- an element of a row that came in. -/
theorem row_at {w : World} {a : Option Addr} {len cap : Nat} {zs : List Int} (h : IsRow .i64 w a len cap zs) (i : Nat) (hi : i < len) :
    ∃ b off, a = some ⟨b, off, none⟩ ∧ b < w.heap.size ∧ w.cell? ⟨b, off + i, none⟩ = some (.int .i64 (zs.getD i 0)) ∧ -9223372036854775808 ≤ zs.getD i 0 ∧ zs.getD i 0 ≤ 9223372036854775807 := by
  rcases h with ⟨_, rfl, _, _⟩ | ⟨x, rfl, hl, hm, hz, hcell, hwz⟩
  · omega
  · have hc := hcell i (by omega)
    obtain ⟨b, off, spot⟩ := x
    have hc0 := hcell 0 (by omega)
    have hspot : spot = none := by simpa [Addr.add] using World.cell?_spot hc0
    subst hspot
    rw [Addr.add_lit] at hc
    have hb := bounds_i64 (hwz (zs.getD i 0) (by rw [show zs.getD i 0 = zs[i]'(by omega) from by simp [List.getD, show i < zs.length by omega]]; exact List.getElem_mem _))
    exact ⟨b, off, rfl, World.block_lt_of_cell? w _ hc, hc, hb.1, hb.2⟩
theorem row_len {w : World} {a : Option Addr} {len cap : Nat} {zs : List Int} (h : IsRow .i64 w a len cap zs) : len ≤ 9223372036854775807 := by
  rcases h with ⟨_, rfl, _, _⟩ | ⟨x, rfl, hl, hm, _⟩
  · omega
  · unfold maxLen at hm; omega
theorem row_arr {w : World} {a : Option Addr} {len cap : Nat} {zs : List Int} (h : IsRow .i64 w a len cap zs) : Arr w a len (fun i => zs.getD i 0) := ⟨row_len h, fun i hi => row_at h i hi⟩

/- The walk: the law's text returns true. -/
set_option maxRecDepth 100000 in
set_option maxHeartbeats 2000000 in
theorem walk (a0 : ByteArray) (a1 : Option Addr) (len1 cap1 : Nat) (z1 : List Int) (a2 : Int) (a3 : Bool) (w : World) (w0 : a0.size ≤ maxLen) (w1 : IsRow .i64 w a1 len1 cap1 z1) (w2 : (Lit.int .i64 a2).wf = true) :
    Calls Try.prog 4 #[.string a0, .slice a1 len1 cap1, .int .i64 a2, .bool a3] w fun e w' => e = .returned (.bool true) ∧ Below w.heap.size w w' := by
  have hA := row_arr w1
  clear w1
  have hs : a0.size ≤ 9223372036854775807 := by unfold maxLen at w0; omega
  generalize hz : (fun i => z1.getD i 0) = z at hA
  clear hz
  have hR := ring_pos a3
  generalize hRR : ring a3 = R at hR
  have HR := Lib.hid hRR
  clear hRR
  obtain ⟨R1, R2⟩ := hR
  have U0 := u64_nonneg a2
  have E0 : 0 ≤ IntKind.u64.wrap a2 % R := Int.emod_nonneg _ (by omega)
  have E1 : IntKind.u64.wrap a2 % R < R := Int.emod_lt_of_pos _ R1
  go_enter Try.func4, Try.ntmps4
  go_wp2_with fail
  refine (awake_any w).mono ?_
  rintro e wa ⟨rfl, O0⟩
  go_wp2_with (go_at_call 16; refine (ring16 _ _).mono ?_; rw [HR.out]; rintro e w' ⟨rfl, rfl⟩)
  generalize IntKind.u64.wrap a2 % R = q at *
  have hA2 := hA.only O0
  refine (cut_any a0 a1 len1 cap1 z q a3 wa hs hA2).mono ?_
  rintro e wb ⟨O1, (⟨hb, rfl⟩ | ⟨hb, n, ao, cap, hn, hc, rfl, hsl, _⟩)⟩
  · have O2 := O0.trans O1
    clear hb O0 O1 hA hA2
    go_wp2_with (go_at_call 12; refine (num_any _ _).mono ?_; rintro e w' ⟨rfl, rfl⟩)
    go_ret
    exact ⟨rfl, O2.below _ (Nat.le_refl _) (by simp)⟩
  have O2 := O0.trans O1
  have hA3 := hA2.only O1
  rw [HR.out] at hsl
  have HB := Lib.hid hb
  have HC := Lib.hid hc
  clear hb hc O0 O1 hA hA2
  go_wp2_with (go_at_call 12; refine (num_any _ _).mono ?_; rintro e w' ⟨rfl, rfl⟩)
  go_loopw [12, 13] (fun t i wr => ∃ k : Nat, k ≤ n ∧ i = .int .i64 k ∧ t = .string (a0.extract 0 (pos a0.size z len1 k)) ∧ Only [] wb wr) (fun _ i _ => n - (intOf i).toNat)
  case atStart => exact ⟨0, Nat.zero_le _, rfl, by simp [pos]; rfl, Only.refl _ _⟩
  case round =>
    obtain ⟨k, hk, rfl, rfl, ho⟩ := hrel
    by_cases hlt : k < n
    · have hs2 := hsl.only ho (by simp)
      have hA4 := hA3.only ho
      obtain ⟨g, off, rfl⟩ := hsl.some (by omega)
      have hl := frs_length a0 z len1 q R n
      obtain ⟨f0, f1, f2, f3⟩ := flatF_get (frs a0 z len1 q R n) k (by omega)
      rw [frs_get] at f0 f1 f2 f3
      have c0 := hs2.cells _ _ f0
      have c1 := hs2.cells _ _ f1
      have c2 := hs2.cells _ _ f2
      have c3 := hs2.cells _ _ f3
      simp only [← Nat.add_assoc, fr] at c0 c1 c2 c3
      have hgl : g < wr.heap.size := hs2.lt rfl
      have hlen : 1 ≤ len1 := by have := HB.out; unfold Bad at this; omega
      have hmod := Nat.mod_lt k (show 0 < len1 by omega)
      obtain ⟨gb, ob, rfl, hgb, hcz, hz1, hz2⟩ := hA4.2 (k % len1) hmod
      have hm9 := hA4.1
      have hzk : 1 ≤ z (k % len1) := by
        have hb := HB.out
        rcases Int.lt_or_le (z (k % len1)) 1 with h | h
        · exact absurd (by unfold Bad; right; right; right; right; right; right; left; exact ⟨_, hmod, .inl h⟩) hb
        · exact h
      have hpl := HC.out.lt k hlt
      have hps := pos_lt a0.size z len1 k hpl hzk
      have hpe := pos_le a0.size z len1 (k + 1)
      have HX : Hid (a0.extract 0 (pos a0.size z len1 k) ++ a0.extract (pos a0.size z len1 k) (pos a0.size z len1 (k + 1)) = a0.extract 0 (pos a0.size z len1 (k + 1))) := by
        show _ = _
        rw [ByteArray.extract_append_extract, Nat.zero_min, Nat.max_eq_right (by omega)]
      have S1 : (a0.extract 0 (pos a0.size z len1 k)).size ≤ 1500 := by
        have hb := HB.out
        unfold Bad at hb
        rw [ByteArray.size_extract]; omega
      have S2 : (a0.extract (pos a0.size z len1 k) (pos a0.size z len1 (k + 1))).size = pos a0.size z len1 (k + 1) - pos a0.size z len1 k := by rw [ByteArray.size_extract]; omega
      have S3 : (pos a0.size z len1 (k + 1) - pos a0.size z len1 k : Nat) ≤ z (k % len1) := by rw [pos_succ]; omega
      have B0 : ((k : Int) == 0) = (k == 0) := by rw [Bool.eq_iff_iff]; simp
      have B1 : ((k : Int) == (n : Int) - 1) = (pos a0.size z len1 (k + 1) == a0.size) := by
        rw [Bool.eq_iff_iff]
        simp only [beq_iff_eq]
        constructor
        · intro h
          have := HC.out.top
          rw [show k + 1 = n by omega]; exact this
        · intro h
          rcases Nat.lt_or_ge (k + 1) n with h1 | h1
          · have := HC.out.lt _ h1; omega
          · omega
      generalize (k == 0) = x0 at c0 B0
      generalize (pos a0.size z len1 (k + 1) == a0.size) = x1 at c1 B1
      have h15 : a0.size ≤ 1500 := by have := HB.out; unfold Bad at this; omega
      have S4 : 1 ≤ (a0.extract (pos a0.size z len1 k) (pos a0.size z len1 (k + 1))).size := by omega
      have S5 : ((a0.extract (pos a0.size z len1 k) (pos a0.size z len1 (k + 1))).size : Int) ≤ z (k % len1) := by omega
      have S6 : (a0.extract (pos a0.size z len1 k) (pos a0.size z len1 (k + 1))).size ≤ 9223372036854000000 := by rw [S2]; omega
      clear S2 S3 hA3 hA4 hpl hps hpe f0 f1 f2 f3 hsl hs2
      generalize a0.extract (pos a0.size z len1 k) (pos a0.size z len1 (k + 1)) = x3 at *
      generalize a0.extract 0 (pos a0.size z len1 k) = t at *
      generalize z (k % len1) = y at *
      have hemp : x3.toList.isEmpty = false := by
        cases hh : x3.toList.isEmpty with
        | false => rfl
        | true =>
          exfalso
          rw [ByteArray.toList_eq, List.isEmpty_iff] at hh
          have : x3.data.size = 0 := by rw [← Array.length_toList, hh]; rfl
          have : x3.size = 0 := this
          omega
      have dy : decide (y < (x3.size : Int)) = false := by simp; omega
      have St : t.size + x3.size ≤ 9223372036854775807 := by omega
      have ho2 := (ho.alloc (.cells #[.bool x0, .bool x1, .int .i64 ((q + k) % R), .string x3] 39)).drew
      have kd : decide ((k : Int) < (n : Int)) = true := by simp; omega
      have kl : (k : Int) < (n : Int) := by omega
      have kd' : decide (k < n) = true := by simp; omega
      clear hl
      go_wp2_with fail
      refine wp_region_reads mixed (by kernel_rfl) ?_
      repeat (refine wpStill_op rfl rfl (fun K hK => ?_); go_step; refine hK _ ?_; clear hK K)
      still_call (ring_R _ _ _ HR.out)
      repeat (refine wpStill_op rfl rfl (fun K hK => ?_); go_step; refine hK _ ?_; clear hK K)
      refine wpStill_nil ?_
      go_wp2
      go_roundw
      case rel => exact ⟨k + 1, by omega, by go_num, by rw [← HX.out], ho2⟩
      case measure => simp [intOf]; omega
    · have hkn : k = n := by omega
      subst hkn
      have e1 : a0.extract 0 (pos a0.size z len1 k) = a0 := by rw [HC.out.top]; simp
      rw [e1]
      have kd : decide (k < k) = false := by simp
      have kd2 : decide ((k : Int) ≤ 64) = true := by simp; omega
      have O3 := O2.trans ho
      clear e1 O2 ho hsl hA3 HB HC
      go_wp2
      go_ret
      exact ⟨rfl, O3.below _ (Nat.le_refl _) (by simp)⟩

/- The row's step. -/
set_option maxRecDepth 100000 in
theorem lifted (os : Os) (started : os.Started) (H : Type) (enc : TypeId × Value → H) :
    ReturnsInHanded {} Try.checked os 4 .any (Rows.splitWholeSpec.pre6 enc Try.prog Try.f4 Rows.splitWholeRow.domain false) (Rows.splitWholeSpec.post enc Try.prog Try.f4 false true false false) := by
  refine returnsInHanded_of_change (C := Try.checked) own started (by kernel_rfl) Try.func4
    (ChangeSpec.witness6 (enc := enc) (C := Try.checked) false ⟨#[], #[.string ByteArray.empty, .slice none 0 0, .int .i64 0, .bool false], []⟩ 8 (by kernel_rfl) (by kernel_rfl) (by kernel_rfl) (by kernel_rfl)) ?_
  intro W base args ds gs before hval0 hW hcnd _
  have hval : ∀ (j : Nat) t v, Try.f4.params[j]? = some t → args[j]? = some v → Value.okWide Try.prog W .any base t v := hval0
  have hW' := hW
  obtain ⟨p, q, hA0, hV, rfl, hfz, hnd⟩ := hW
  have hA : DataW.TrodAll enc Try.prog W 0 (fun _ => true) true Try.f4.params.toList args.toList ds p := hA0
  rw [Try.params4] at hA hval
  obtain ⟨v0, vs0, d0, ds0, p0, q0, hargs, rfl, rfl, h0, r0⟩ := trodAll_cons hA
  obtain ⟨v1, vs1, d1, ds1, p1, q1, rfl, rfl, rfl, h1, r1⟩ := trodAll_cons r0
  obtain ⟨v2, vs2, d2, ds2, p2, q2, rfl, rfl, rfl, h2, r2⟩ := trodAll_cons r1
  obtain ⟨v3, vs3, d3, ds3, p3, q3, rfl, rfl, rfl, h3, r3⟩ := trodAll_cons r2
  obtain ⟨rfl, rfl, rfl⟩ := trodAll_nil r3
  obtain rfl : args = #[v0, v1, v2, v3] := by cases args; simp_all
  obtain ⟨rfl, rfl⟩ := trodVars_none hV
  obtain ⟨a0, rfl, rfl, rfl, w0⟩ := open_string Try.underlying9 (hval 0 9 v0 rfl rfl) h0
  obtain ⟨a1, len1, cap1, rfl⟩ := okWide_slice Try.underlying22 (hval 1 22 v1 rfl rfl)
  have k1 := h1
  have lt1 : ∀ x ∈ p1, x.block < W.heap.size := by obtain ⟨m, hm⟩ := k1; exact DataW.trod_lt m _ _ _ hm
  obtain ⟨z1, w1⟩ : ∃ zs, IsRow .i64 W a1 len1 cap1 zs := by
    obtain ⟨fuel, hf⟩ := h1
    rcases open_ints Try.underlying22 Try.underlying3 (by kernel_rfl) hf with ⟨hcs, _⟩ | ⟨x, l, c, zs, hcs, _, hl, hm, hz, _, hcell, hwz⟩
    · simp [Value.cells] at hcs
      obtain ⟨rfl, rfl, rfl⟩ := hcs
      exact ⟨[], .inl ⟨rfl, rfl, rfl, rfl⟩⟩
    · simp [Value.cells] at hcs
      obtain ⟨rfl, rfl, rfl⟩ := hcs
      exact ⟨zs, .inr ⟨_, rfl, hl, hm, by simpa using hz, hcell, hwz⟩⟩
  obtain ⟨a2, rfl, rfl, rfl, w2⟩ := open_int Try.underlying3 (hval 2 3 v2 rfl rfl) h2
  obtain ⟨a3, rfl, rfl, rfl⟩ := open_bool Try.underlying4 (hval 3 4 v3 rfl rfl) h3
  clear hA0 hval0
  refine (walk a0 a1 len1 cap1 z1 a2 a3 W w0 w1 w2).mono fun e W' ⟨he, bel⟩ => ?_
  subst he
  exact ⟨_, rfl, _, _, _, [], _, [], hW', trodAll_mk1 (shut_bool Try.underlying4 _), (trodAll_cons_mk (shut_string Try.underlying9 w0) (trodAll_cons_mk (Below.trod laidOut (by kernel_rfl) (of_decide_eq_true (by kernel_rfl)) k1 bel lt1) (trodAll_cons_mk (shut_int Try.underlying3 w2) (trodAll_cons_mk (shut_bool Try.underlying4 _) trodAll_mk0)))), rfl, bel.frame _, fun h => by cases h⟩

theorem over : Rows.splitWholeRow.holds Try.pinned (OpenSpec.ofChange Rows.splitWholeSpec) :=
  OpenClaim.holds_of_wide 4 Try.f4 rfl rfl rfl rfl rfl rfl rfl ⟨rfl, rfl, rfl, rfl, rfl⟩ rfl rfl rfl rfl rfl (by kernel_rfl) Try.func4 (by kernel_rfl)
    (of_decide_eq_true (by kernel_rfl)) (by unfold Func.isWrapper; first | (rw [if_pos (by decide +kernel)]; kernel_rfl) | (rw [if_neg (by decide +kernel)]; exact ⟨rfl, rfl⟩))
    (fun os started H enc _ => lifted os started H enc)

/-- The statement. -/
theorem proved : Rows.SplitWholeSaid := over
#print axioms proved
end Go.Proofs.Ythhhbnbhcedhmaa.splitWhole

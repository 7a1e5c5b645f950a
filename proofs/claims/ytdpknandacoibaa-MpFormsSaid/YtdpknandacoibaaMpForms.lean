/- Proved here: withylaw8.MpForms returns true for every input and leaves its arguments as they were (the given statement Rows.MpFormsSaid). Conditions: none. -/
import Derived.Test.YtdpknandacoibaaRows
import Derived.Test.YtdpknandacoibaaAwake
import Derived.Test.YtdpknandacoibaaOpen
import Derived.Test.YtdpknandacoibaaMask
import Derived.WalkKit
import Derived.Lib.Hide
import Derived.Deep.Cut
import Derived.SizedLaws
import Derived.ProofKit
import Derived.OpenShut
import Derived.ShutString
namespace Go.Proofs.Ytdpknandacoibaa.mpForms
open Go.ChangeShapes Go.WideShapes Go.ChangeAt Go.RowKit
open Plain
open Go.ChangeMaps (open_string shut_string)
set_option linter.unusedVariables false      -- a walk need not use every 'w<i>' (that an integer argument fits its kind)

theorem own : ownKnob Try.prog.godebug = none := by kernel_rfl

theorem put_size (f : Fr) (short : Bool) : (putS f short).size ≤ 2052 := by
  unfold putS
  split
  · rename_i h
    unfold bytesOf
    rw [size_app, head_len]
    have := h.2.2
    cases short <;> simp [hlen] <;> omega
  · show 0 ≤ 2052
    omega
theorem put_parts (f : Fr) (short : Bool) (h : PutOk f short) : (putS f short).size = f.d.size + hlen short ∧ (putS f short).extract (hlen short) (putS f short).size = f.d ∧ putE f short = 0 := by
  have hp : putS f short = strOfNums (head f.b f.e f.q short) ++ f.d := by unfold putS; rw [if_pos h]; rfl
  have h1 := size_app (head f.b f.e f.q short) f.d
  have h2 := tail_app (head f.b f.e f.q short) f.d
  rw [head_len] at h1 h2
  rw [hp]
  exact ⟨by omega, h2, if_pos h⟩

/- The walk: the law's text returns true. -/
set_option maxRecDepth 100000 in
set_option maxHeartbeats 4000000 in
theorem walk (a0 : Int) (a1 : Bool) (a2 : Bool) (a3 : ByteArray) (w0 : (Lit.int .i64 a0).wf = true) (w3 : a3.size ≤ 140737488351232) (w : World) :
    Calls Try.prog 6 #[.int .i64 a0, .bool a1, .bool a2, .string a3] w fun e w' => e = .returned (.bool true) ∧ Below w.heap.size w w' := by
  have M0 := and_4095 a0
  have M1 : 0 ≤ a0 % 4096 := by omega
  have M2 : a0 % 4096 ≤ 4095 := by omega
  generalize a0 % 4096 = q at *
  by_cases h3 : 300 < (a3.size : Int)
  · have dd : decide (300 < (a3.size : Int)) = true := by simpa using h3
    have l3 : (300 : Int) ≤ (a3.size : Int) := by omega
    have hd : (a3.extract 0 300).size ≤ 300 := by rw [ByteArray.size_extract]; omega
    go_enter Try.func6, Try.ntmps6
    go_wp2_with fail
    refine (awake_any w).mono ?_
    rintro e wa ⟨rfl, Oa⟩
    go_upto_region 7 with fail
    clear dd h3 l3
    generalize a3.extract 0 300 = d at *
    have hP1 : PutOk ⟨a1, a2, q, d⟩ true := ⟨M1, by show q < 4096; omega, by show d.size ≤ 2048; omega⟩
    have hP2 : PutOk ⟨a1, a2, q, d⟩ false := ⟨M1, by show q < 16777216; omega, by show d.size ≤ 2048; omega⟩
    obtain ⟨s1, t1, e1⟩ := put_parts _ _ hP1
    obtain ⟨s2, t2, e2⟩ := put_parts _ _ hP2
    obtain ⟨u1, v1⟩ := there _ _ hP1
    obtain ⟨u2, v2⟩ := there _ _ hP2
    have hb := heap_alloc_new' wa (.cells #[.bool a1, .bool a2, .int .i64 q, .string d] 23)
    have O1 := Oa.alloc (.cells #[.bool a1, .bool a2, .int .i64 q, .string d] 23)
    clear Oa hP1 hP2 M0
    have HS1 := Lib.hid s1
    have HS2 := Lib.hid s2
    have HT1 := Lib.hid t1
    have HT2 := Lib.hid t2
    have HE1 := Lib.hid e1
    have HE2 := Lib.hid e2
    have HU1 := Lib.hid u1
    have HU2 := Lib.hid u2
    have HV1 := Lib.hid v1
    have HV2 := Lib.hid v2
    clear s1 s2 t1 t2 e1 e2 u1 u2 v1 v2
    generalize World.alloc wa _ = w1 at *
    generalize wa.heap.size = B at *
    have k0 := cell_of hb 0
    have k1 := cell_of hb 1
    have k2 := cell_of hb 2
    have k3 := cell_of hb 3
    simp only [List.getElem?_toArray, List.getElem?_cons_succ, List.getElem?_cons_zero] at k0 k1 k2 k3
    go_wp2_with fail
    refine (put_any ⟨a1, a2, q, d⟩ true w1).mono ?_
    rintro e w2 ⟨rfl, O2⟩
    rw [HE1.out]
    have hb2 := O2.at hb (by simp)
    have O3 := O1.trans O2
    clear k0 k1 k2 k3 hb O1 O2 HE1
    have k0 := cell_of hb2 0
    have k1 := cell_of hb2 1
    have k2 := cell_of hb2 2
    have k3 := cell_of hb2 3
    simp only [List.getElem?_toArray, List.getElem?_cons_succ, List.getElem?_cons_zero] at k0 k1 k2 k3
    go_wp2_with fail
    refine (put_any ⟨a1, a2, q, d⟩ false w2).mono ?_
    rintro e w3 ⟨rfl, O4⟩
    rw [HE2.out]
    have hb3 := O4.at hb2 (by simp)
    have O5 := O3.trans O4
    clear k0 k1 k2 k3 hb2 O3 O4 HE2
    generalize putS ⟨a1, a2, q, d⟩ true = A at *
    generalize putS ⟨a1, a2, q, d⟩ false = Bb at *
    have z1 : ((A.size : Int) != (d.size : Int) + 2) = false := by have := HS1.out; simp [hlen] at this ⊢; omega
    have z2 : ((Bb.size : Int) != (d.size : Int) + 4) = false := by have := HS2.out; simp [hlen] at this ⊢; omega
    have y1 : A.size ≤ 2048 := by have := HS1.out; simp [hlen] at this; omega
    have y2 : Bb.size ≤ 2048 := by have := HS2.out; simp [hlen] at this; omega
    have x1 : (2 : Int) ≤ (A.size : Int) := by have := HS1.out; simp [hlen] at this; omega
    have x2 : (4 : Int) ≤ (Bb.size : Int) := by have := HS2.out; simp [hlen] at this; omega
    have t1 : A.extract 2 A.size = d := HT1.out
    have t2 : Bb.extract 4 Bb.size = d := HT2.out
    go_wp2_with (go_at_call 11; refine (num_any _ _).mono ?_; rintro e w' ⟨rfl, rfl⟩)
    refine (get_x A true w3 (by omega)).mono ?_
    rintro e w4 ⟨rfl, O6⟩
    rw [HU1.out, HV1.out]
    have hb4 := O6.at hb3 (by simp)
    have O7 := O5.trans O6
    clear hb3 O5 O6 HU1 HV1
    simp only
    go_wp2_with fail
    have hc := heap_alloc_new' w4 (.cells #[.bool a1, .bool a2, .int .i64 q, .string d] 23)
    have hb5 := ((Only.refl [] w4).alloc (.cells #[.bool a1, .bool a2, .int .i64 q, .string d] 23)).at hb4 (by simp)
    have O8 := O7.alloc (.cells #[.bool a1, .bool a2, .int .i64 q, .string d] 23)
    clear hb4 O7
    generalize World.alloc w4 _ = w5 at *
    generalize w4.heap.size = C at *
    refine (get_x Bb false w5 (by omega)).mono ?_
    rintro e w6 ⟨rfl, O9⟩
    rw [HU2.out, HV2.out]
    have hb6 := O9.at hb5 (by simp)
    have hc6 := O9.at hc (by simp)
    have O10 := O8.trans O9
    clear hb5 hc O8 O9 HU2 HV2
    simp only
    go_upto_region 13 with fail
    have hd7 := heap_alloc_new' w6 (.cells #[.bool a1, .bool a2, .int .i64 q, .string d] 23)
    have hb7 := ((Only.refl [] w6).alloc (.cells #[.bool a1, .bool a2, .int .i64 q, .string d] 23)).at hb6 (by simp)
    have hc7 := ((Only.refl [] w6).alloc (.cells #[.bool a1, .bool a2, .int .i64 q, .string d] 23)).at hc6 (by simp)
    have O11 := O10.alloc (.cells #[.bool a1, .bool a2, .int .i64 q, .string d] 23)
    clear hb6 hc6 O10
    generalize World.alloc w6 _ = w7 at *
    generalize w6.heap.size = D at *
    have k0 := cell_of hb7 0
    have k1 := cell_of hb7 1
    have k2 := cell_of hb7 2
    have k3 := cell_of hb7 3
    simp only [List.getElem?_toArray, List.getElem?_cons_succ, List.getElem?_cons_zero] at k0 k1 k2 k3
    have l0 := cell_of hc7 0
    have l1 := cell_of hc7 1
    have l2 := cell_of hc7 2
    have l3 := cell_of hc7 3
    simp only [List.getElem?_toArray, List.getElem?_cons_succ, List.getElem?_cons_zero] at l0 l1 l2 l3
    have m0 := cell_of hd7 0
    have m1 := cell_of hd7 1
    have m2 := cell_of hd7 2
    have m3 := cell_of hd7 3
    simp only [List.getElem?_toArray, List.getElem?_cons_succ, List.getElem?_cons_zero] at m0 m1 m2 m3
    clear hb7 hc7 hd7
    go_wp2_with (go_at_call 11; refine (num_any _ _).mono ?_; rintro e w' ⟨rfl, rfl⟩)
    go_ret
    exact ⟨rfl, O11.below _ (Nat.le_refl _) (by simp)⟩
  · have dd : decide (300 < (a3.size : Int)) = false := by simpa using h3
    have hd : a3.size ≤ 300 := by omega
    go_enter Try.func6, Try.ntmps6
    go_wp2_with fail
    refine (awake_any w).mono ?_
    rintro e wa ⟨rfl, Oa⟩
    go_upto_region 7 with fail
    clear dd h3
    generalize a3 = d at *
    have hP1 : PutOk ⟨a1, a2, q, d⟩ true := ⟨M1, by show q < 4096; omega, by show d.size ≤ 2048; omega⟩
    have hP2 : PutOk ⟨a1, a2, q, d⟩ false := ⟨M1, by show q < 16777216; omega, by show d.size ≤ 2048; omega⟩
    obtain ⟨s1, t1, e1⟩ := put_parts _ _ hP1
    obtain ⟨s2, t2, e2⟩ := put_parts _ _ hP2
    obtain ⟨u1, v1⟩ := there _ _ hP1
    obtain ⟨u2, v2⟩ := there _ _ hP2
    have hb := heap_alloc_new' wa (.cells #[.bool a1, .bool a2, .int .i64 q, .string d] 23)
    have O1 := Oa.alloc (.cells #[.bool a1, .bool a2, .int .i64 q, .string d] 23)
    clear Oa hP1 hP2 M0
    have HS1 := Lib.hid s1
    have HS2 := Lib.hid s2
    have HT1 := Lib.hid t1
    have HT2 := Lib.hid t2
    have HE1 := Lib.hid e1
    have HE2 := Lib.hid e2
    have HU1 := Lib.hid u1
    have HU2 := Lib.hid u2
    have HV1 := Lib.hid v1
    have HV2 := Lib.hid v2
    clear s1 s2 t1 t2 e1 e2 u1 u2 v1 v2
    generalize World.alloc wa _ = w1 at *
    generalize wa.heap.size = B at *
    have k0 := cell_of hb 0
    have k1 := cell_of hb 1
    have k2 := cell_of hb 2
    have k3 := cell_of hb 3
    simp only [List.getElem?_toArray, List.getElem?_cons_succ, List.getElem?_cons_zero] at k0 k1 k2 k3
    go_wp2_with fail
    refine (put_any ⟨a1, a2, q, d⟩ true w1).mono ?_
    rintro e w2 ⟨rfl, O2⟩
    rw [HE1.out]
    have hb2 := O2.at hb (by simp)
    have O3 := O1.trans O2
    clear k0 k1 k2 k3 hb O1 O2 HE1
    have k0 := cell_of hb2 0
    have k1 := cell_of hb2 1
    have k2 := cell_of hb2 2
    have k3 := cell_of hb2 3
    simp only [List.getElem?_toArray, List.getElem?_cons_succ, List.getElem?_cons_zero] at k0 k1 k2 k3
    go_wp2_with fail
    refine (put_any ⟨a1, a2, q, d⟩ false w2).mono ?_
    rintro e w3 ⟨rfl, O4⟩
    rw [HE2.out]
    have hb3 := O4.at hb2 (by simp)
    have O5 := O3.trans O4
    clear k0 k1 k2 k3 hb2 O3 O4 HE2
    generalize putS ⟨a1, a2, q, d⟩ true = A at *
    generalize putS ⟨a1, a2, q, d⟩ false = Bb at *
    have z1 : ((A.size : Int) != (d.size : Int) + 2) = false := by have := HS1.out; simp [hlen] at this ⊢; omega
    have z2 : ((Bb.size : Int) != (d.size : Int) + 4) = false := by have := HS2.out; simp [hlen] at this ⊢; omega
    have y1 : A.size ≤ 2048 := by have := HS1.out; simp [hlen] at this; omega
    have y2 : Bb.size ≤ 2048 := by have := HS2.out; simp [hlen] at this; omega
    have x1 : (2 : Int) ≤ (A.size : Int) := by have := HS1.out; simp [hlen] at this; omega
    have x2 : (4 : Int) ≤ (Bb.size : Int) := by have := HS2.out; simp [hlen] at this; omega
    have t1 : A.extract 2 A.size = d := HT1.out
    have t2 : Bb.extract 4 Bb.size = d := HT2.out
    go_wp2_with (go_at_call 11; refine (num_any _ _).mono ?_; rintro e w' ⟨rfl, rfl⟩)
    refine (get_x A true w3 (by omega)).mono ?_
    rintro e w4 ⟨rfl, O6⟩
    rw [HU1.out, HV1.out]
    have hb4 := O6.at hb3 (by simp)
    have O7 := O5.trans O6
    clear hb3 O5 O6 HU1 HV1
    simp only
    go_wp2_with fail
    have hc := heap_alloc_new' w4 (.cells #[.bool a1, .bool a2, .int .i64 q, .string d] 23)
    have hb5 := ((Only.refl [] w4).alloc (.cells #[.bool a1, .bool a2, .int .i64 q, .string d] 23)).at hb4 (by simp)
    have O8 := O7.alloc (.cells #[.bool a1, .bool a2, .int .i64 q, .string d] 23)
    clear hb4 O7
    generalize World.alloc w4 _ = w5 at *
    generalize w4.heap.size = C at *
    refine (get_x Bb false w5 (by omega)).mono ?_
    rintro e w6 ⟨rfl, O9⟩
    rw [HU2.out, HV2.out]
    have hb6 := O9.at hb5 (by simp)
    have hc6 := O9.at hc (by simp)
    have O10 := O8.trans O9
    clear hb5 hc O8 O9 HU2 HV2
    simp only
    go_upto_region 13 with fail
    have hd7 := heap_alloc_new' w6 (.cells #[.bool a1, .bool a2, .int .i64 q, .string d] 23)
    have hb7 := ((Only.refl [] w6).alloc (.cells #[.bool a1, .bool a2, .int .i64 q, .string d] 23)).at hb6 (by simp)
    have hc7 := ((Only.refl [] w6).alloc (.cells #[.bool a1, .bool a2, .int .i64 q, .string d] 23)).at hc6 (by simp)
    have O11 := O10.alloc (.cells #[.bool a1, .bool a2, .int .i64 q, .string d] 23)
    clear hb6 hc6 O10
    generalize World.alloc w6 _ = w7 at *
    generalize w6.heap.size = D at *
    have k0 := cell_of hb7 0
    have k1 := cell_of hb7 1
    have k2 := cell_of hb7 2
    have k3 := cell_of hb7 3
    simp only [List.getElem?_toArray, List.getElem?_cons_succ, List.getElem?_cons_zero] at k0 k1 k2 k3
    have l0 := cell_of hc7 0
    have l1 := cell_of hc7 1
    have l2 := cell_of hc7 2
    have l3 := cell_of hc7 3
    simp only [List.getElem?_toArray, List.getElem?_cons_succ, List.getElem?_cons_zero] at l0 l1 l2 l3
    have m0 := cell_of hd7 0
    have m1 := cell_of hd7 1
    have m2 := cell_of hd7 2
    have m3 := cell_of hd7 3
    simp only [List.getElem?_toArray, List.getElem?_cons_succ, List.getElem?_cons_zero] at m0 m1 m2 m3
    clear hb7 hc7 hd7
    go_wp2_with (go_at_call 11; refine (num_any _ _).mono ?_; rintro e w' ⟨rfl, rfl⟩)
    go_ret
    exact ⟨rfl, O11.below _ (Nat.le_refl _) (by simp)⟩

/- The row's step. -/
set_option maxRecDepth 100000 in
theorem lifted (os : Os) (started : os.Started) (H : Type) (enc : TypeId × Value → H) :
    ReturnsInHanded {} Try.checked os 6 .any (Rows.mpFormsSpec.pre6 enc Try.prog Try.f6 Rows.mpFormsRow.domain false) (Rows.mpFormsSpec.post enc Try.prog Try.f6 false true false false) := by
  refine returnsInHanded_of_change_sized (C := Try.checked) own started (by kernel_rfl) Try.func6
    (ChangeSpec.witness6 (enc := enc) (C := Try.checked) false ⟨#[], #[.int .i64 0, .bool false, .bool false, .string ByteArray.empty], []⟩ 8 (by kernel_rfl) (by kernel_rfl) (by kernel_rfl) (by kernel_rfl)) ?_
  intro W base args ds gs before hval0 hW hcnd hsz _
  have hval : ∀ (j : Nat) t v, Try.f6.params[j]? = some t → args[j]? = some v → Value.okWide Try.prog W .any base t v := hval0
  have hW' := hW
  obtain ⟨p, q, hA0, hV, rfl, hfz, hnd⟩ := hW
  have hA : DataW.TrodAll enc Try.prog W 0 (fun _ => true) true Try.f6.params.toList args.toList ds p := hA0
  rw [Try.params6] at hA hval
  obtain ⟨v0, vs0, d0, ds0, p0, q0, hargs, rfl, rfl, h0, r0⟩ := trodAll_cons hA
  obtain ⟨v1, vs1, d1, ds1, p1, q1, rfl, rfl, rfl, h1, r1⟩ := trodAll_cons r0
  obtain ⟨v2, vs2, d2, ds2, p2, q2, rfl, rfl, rfl, h2, r2⟩ := trodAll_cons r1
  obtain ⟨v3, vs3, d3, ds3, p3, q3, rfl, rfl, rfl, h3, r3⟩ := trodAll_cons r2
  obtain ⟨rfl, rfl, rfl⟩ := trodAll_nil r3
  obtain rfl : args = #[v0, v1, v2, v3] := by cases args; simp_all
  obtain ⟨rfl, rfl⟩ := trodVars_none hV
  obtain ⟨a0, rfl, rfl, rfl, w0⟩ := open_int Try.underlying3 (hval 0 3 v0 rfl rfl) h0
  obtain ⟨a1, rfl, rfl, rfl⟩ := open_bool Try.underlying4 (hval 1 4 v1 rfl rfl) h1
  obtain ⟨a2, rfl, rfl, rfl⟩ := open_bool Try.underlying4 (hval 2 4 v2 rfl rfl) h2
  obtain ⟨a3, rfl, rfl, rfl, w3⟩ := open_string Try.underlying9 (hval 3 9 v3 rfl rfl) h3
  have z3 : a3.size ≤ 140737488351232 := by have := sized_string hsz (j := 3) (t := 9) rfl rfl; simpa [reachBytes] using this
  clear hA0 hval0
  refine (walk a0 a1 a2 a3 w0 z3 W).mono fun e W' ⟨he, hg⟩ => ?_
  subst he
  exact ⟨_, rfl, _, _, _, [], _, [], hW', (trodAll_cons_mk (shut_bool Try.underlying4 _) trodAll_mk0), (trodAll_cons_mk (shut_int Try.underlying3 w0) (trodAll_cons_mk (shut_bool Try.underlying4 _) (trodAll_cons_mk (shut_bool Try.underlying4 _) (trodAll_cons_mk (shut_string Try.underlying9 w3) trodAll_mk0)))), rfl, hg.frame _, fun h => by cases h⟩

theorem over : Rows.mpFormsRow.holds Try.pinned (OpenSpec.ofChange Rows.mpFormsSpec) :=
  OpenClaim.holds_of_wide 6 Try.f6 rfl rfl rfl rfl rfl rfl rfl ⟨rfl, rfl, rfl, rfl, rfl⟩ rfl rfl rfl rfl rfl (by kernel_rfl) Try.func6 (by kernel_rfl)
    (of_decide_eq_true (by kernel_rfl)) (by unfold Func.isWrapper; first | (rw [if_pos (by decide +kernel)]; kernel_rfl) | (rw [if_neg (by decide +kernel)]; exact ⟨rfl, rfl⟩))
    (fun os started H enc _ => lifted os started H enc)

/-- The statement. -/
theorem proved : Rows.MpFormsSaid :=
  over
#print axioms proved
end Go.Proofs.Ytdpknandacoibaa.mpForms

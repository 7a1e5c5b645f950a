/- Proved here: withylaw8.MpBack returns true for every input and leaves its arguments as they were (the given statement Rows.MpBackSaid). Conditions: none. -/
import Derived.Test.YtdpknandacoibaaRows
import Derived.Test.YtdpknandacoibaaAwake
import Derived.Test.YtdpknandacoibaaOpen
import Derived.Lib.Hide
import Derived.WalkKit
import Derived.SizedLaws
import Derived.ProofKit
import Derived.OpenShut
import Derived.ShutString
import Derived.ChangeOld
import Derived.Below
namespace Go.Proofs.Ytdpknandacoibaa.mpBack
open Go.ChangeShapes Go.WideShapes Go.ChangeAt Go.RowKit
open Plain
open Go.ChangeMaps (open_string shut_string)
set_option linter.unusedVariables false

theorem own : ownKnob Try.prog.godebug = none := by kernel_rfl
theorem laidOut : laidOutB Try.prog = true := by kernel_rfl

theorem get_zero (s : ByteArray) (short : Bool) (h : getE s short ≠ 0) : getF s short = zeroF := by
  unfold getE at h
  unfold getF
  by_cases h1 : GetForm s short
  · rw [if_pos h1]
  · rw [if_neg h1] at h ⊢
    by_cases h2 : 2048 + hlen short < s.size
    · rw [if_pos h2]
    · rw [if_neg h2] at h
      exact absurd rfl h
theorem put_size (f : Fr) (short : Bool) : (putS f short).size ≤ 2052 := by
  unfold putS
  split
  · rename_i h
    unfold bytesOf
    rw [size_app, head_len]
    have := h.2.2
    cases short <;> simp [hlen] <;> omega
  · show 0 ≤ 2052
    omega

/- The walk: the law's text returns true. -/
set_option maxRecDepth 100000 in
set_option maxHeartbeats 4000000 in
theorem walk (a0 : Fr) (a1 : ByteArray) (w1 : a1.size ≤ 140737488351232) (a2 : Bool) (w : World) :
    Calls Try.prog 4 #[.agg #[.bool a0.b, .bool a0.e, .int .i64 a0.q, .string a0.d], .string a1, .bool a2] w fun e w' => e = .returned (.bool true) ∧ Below w.heap.size w w' := by
  have hs : a1.size ≤ 9223372036854775807 := by omega
  go_enter Try.func4, Try.ntmps4
  go_upto_region 1 with fail
  have hb := heap_alloc_new' w (.cells #[.bool a0.b, .bool a0.e, .int .i64 a0.q, .string a0.d] 23)
  have O0 := (Only.refl [] w).alloc (.cells #[.bool a0.b, .bool a0.e, .int .i64 a0.q, .string a0.d] 23)
  generalize World.alloc w _ = w1 at *
  generalize hW : w.heap.size = B at *
  have HW := Lib.hid hW
  clear hW
  go_wp2_with fail
  refine (awake_any w1).mono ?_
  rintro e wa ⟨rfl, Oa⟩
  have hb1 := Oa.at hb (by simp)
  have O1 := O0.trans Oa
  clear hb O0 Oa
  have k0 := cell_of hb1 0
  have k1 := cell_of hb1 1
  have k2 := cell_of hb1 2
  have k3 := cell_of hb1 3
  simp only [List.getElem?_toArray, List.getElem?_cons_succ, List.getElem?_cons_zero] at k0 k1 k2 k3
  go_wp2_with fail
  refine (put_any a0 a2 wa).mono ?_
  rintro e w2 ⟨rfl, O2⟩
  have hb2 := O2.at hb1 (by simp)
  have O3 := O1.trans O2
  clear k0 k1 k2 k3 hb1 O1 O2
  by_cases hP : PutOk a0 a2
  · obtain ⟨hT1, hT2⟩ := there a0 a2 hP
    have HT1 := Lib.hid hT1
    have HT2 := Lib.hid hT2
    have hsz := put_size a0 a2
    rw [show putE a0 a2 = 0 from if_pos hP]
    clear hT1 hT2 hP
    generalize putS a0 a2 = S at *
    go_wp2_with (go_at_call 11; refine (num_any _ _).mono ?_; rintro e w' ⟨rfl, rfl⟩)
    refine (get_x S a2 w2 (by omega)).mono ?_
    rintro e w3 ⟨rfl, O4⟩
    rw [HT1.out, HT2.out]
    have hb3 := O4.at hb2 (by simp)
    have O5 := O3.trans O4
    clear hb2 O3 O4
    go_upto_region 6 with fail
    have hc := heap_alloc_new' w3 (.cells #[.bool a0.b, .bool a0.e, .int .i64 a0.q, .string a0.d] 23)
    have hb4 := ((Only.refl [] w3).alloc (.cells #[.bool a0.b, .bool a0.e, .int .i64 a0.q, .string a0.d] 23)).at hb3 (by simp)
    have O6 := O5.alloc (.cells #[.bool a0.b, .bool a0.e, .int .i64 a0.q, .string a0.d] 23)
    clear hb3 O5
    generalize World.alloc w3 _ = w4 at *
    generalize w3.heap.size = C at *
    have k0 := cell_of hb4 0
    have k1 := cell_of hb4 1
    have k2 := cell_of hb4 2
    have k3 := cell_of hb4 3
    simp only [List.getElem?_toArray, List.getElem?_cons_succ, List.getElem?_cons_zero] at k0 k1 k2 k3
    have l0 := cell_of hc 0
    have l1 := cell_of hc 1
    have l2 := cell_of hc 2
    have l3 := cell_of hc 3
    simp only [List.getElem?_toArray, List.getElem?_cons_succ, List.getElem?_cons_zero] at l0 l1 l2 l3
    clear hb4 hc
    go_wp2_with (go_at_call 11; refine (num_any _ _).mono ?_; rintro e w' ⟨rfl, rfl⟩)
    clear k0 k1 k2 k3 l0 l1 l2 l3
    refine (get_x a1 a2 w4 hs).mono ?_
    rintro e wg ⟨rfl, Og⟩
    have Oh := O6.trans Og
    clear O6 Og
    by_cases hE : getE a1 a2 = 0
    · obtain ⟨hB1, hB2⟩ := back a1 a2 hE
      have HB1 := Lib.hid hB1
      have HB2 := Lib.hid hB2
      rw [hE]
      clear hB1 hB2 hE
      generalize getF a1 a2 = G at *
      go_wp2_with (go_at_call 11; refine (num_any _ _).mono ?_; rintro e w' ⟨rfl, rfl⟩)
      have hg := heap_alloc_new' wg (.cells #[.bool G.b, .bool G.e, .int .i64 G.q, .string G.d] 23)
      have Oi := Oh.alloc (.cells #[.bool G.b, .bool G.e, .int .i64 G.q, .string G.d] 23)
      clear Oh
      generalize World.alloc wg _ = wh at *
      generalize wg.heap.size = D at *
      refine (put_any G a2 wh).mono ?_
      rintro e wi ⟨rfl, Oj⟩
      rw [HB1.out, HB2.out]
      go_wp2_with (go_at_call 11; refine (num_any _ _).mono ?_; rintro e w' ⟨rfl, rfl⟩)
      go_ret
      exact ⟨rfl, (Oi.trans Oj).below _ (Nat.le_refl _) (by simp)⟩
    · have hz := get_zero a1 a2 hE
      rw [hz]
      have hne : (getE a1 a2 != 0) = true := by simpa using hE
      generalize getE a1 a2 = F at *
      clear hE hz
      have hzd : zeroF.d = ⟨#[]⟩ := rfl
      go_wp2_with (go_at_call 11; refine (num_any _ _).mono ?_; rintro e w' ⟨rfl, rfl⟩)
      go_ret
      exact ⟨by first | rfl | simp [zeroF], (Oh.alloc _).below _ (Nat.le_refl _) (by simp)⟩
  · rw [show putE a0 a2 = 801 from if_neg hP]
    clear hP
    generalize putS a0 a2 = S at *
    go_wp2_with (go_at_call 11; refine (num_any _ _).mono ?_; rintro e w' ⟨rfl, rfl⟩)
    clear hb2
    refine (get_x a1 a2 w2 hs).mono ?_
    rintro e wg ⟨rfl, Og⟩
    have Oh := O3.trans Og
    clear O3 Og
    by_cases hE : getE a1 a2 = 0
    · obtain ⟨hB1, hB2⟩ := back a1 a2 hE
      have HB1 := Lib.hid hB1
      have HB2 := Lib.hid hB2
      rw [hE]
      clear hB1 hB2 hE
      generalize getF a1 a2 = G at *
      go_wp2_with (go_at_call 11; refine (num_any _ _).mono ?_; rintro e w' ⟨rfl, rfl⟩)
      have hg := heap_alloc_new' wg (.cells #[.bool G.b, .bool G.e, .int .i64 G.q, .string G.d] 23)
      have Oi := Oh.alloc (.cells #[.bool G.b, .bool G.e, .int .i64 G.q, .string G.d] 23)
      clear Oh
      generalize World.alloc wg _ = wh at *
      generalize wg.heap.size = D at *
      refine (put_any G a2 wh).mono ?_
      rintro e wi ⟨rfl, Oj⟩
      rw [HB1.out, HB2.out]
      go_wp2_with (go_at_call 11; refine (num_any _ _).mono ?_; rintro e w' ⟨rfl, rfl⟩)
      go_ret
      exact ⟨rfl, (Oi.trans Oj).below _ (Nat.le_refl _) (by simp)⟩
    · have hz := get_zero a1 a2 hE
      rw [hz]
      have hne : (getE a1 a2 != 0) = true := by simpa using hE
      generalize getE a1 a2 = F at *
      clear hE hz
      have hzd : zeroF.d = ⟨#[]⟩ := rfl
      go_wp2_with (go_at_call 11; refine (num_any _ _).mono ?_; rintro e w' ⟨rfl, rfl⟩)
      go_ret
      exact ⟨by first | rfl | simp [zeroF], (Oh.alloc _).below _ (Nat.le_refl _) (by simp)⟩

/- The row's step. -/
set_option maxRecDepth 100000 in
theorem lifted (os : Os) (started : os.Started) (H : Type) (enc : TypeId × Value → H) :
    ReturnsInHanded {} Try.checked os 4 .any (Rows.mpBackSpec.pre6 enc Try.prog Try.f4 Rows.mpBackRow.domain false) (Rows.mpBackSpec.post enc Try.prog Try.f4 false true false false) := by
  refine returnsInHanded_of_change_sized (C := Try.checked) own started (by kernel_rfl) Try.func4
    (ChangeSpec.witness6 (enc := enc) (C := Try.checked) false ⟨#[], #[.agg #[.bool false, .bool false, .int .i64 0, .string ByteArray.empty], .string ByteArray.empty, .bool false], []⟩ 8 (by kernel_rfl) (by kernel_rfl) (by kernel_rfl) (by kernel_rfl)) ?_
  intro W base args ds gs before hval0 hW hcnd hsz _
  have hval : ∀ (j : Nat) t v, Try.f4.params[j]? = some t → args[j]? = some v → Value.okWide Try.prog W .any base t v := hval0
  have hW' := hW
  obtain ⟨p, q, hA0, hV, rfl, hfz, hnd⟩ := hW
  have hA : DataW.TrodAll enc Try.prog W 0 (fun _ => true) true Try.f4.params.toList args.toList ds p := hA0
  rw [Try.params4] at hA hval
  obtain ⟨v0, vs0, d0, ds0, p0, q0, hargs, rfl, rfl, h0, r0⟩ := trodAll_cons hA
  obtain ⟨v1, vs1, d1, ds1, p1, q1, rfl, rfl, rfl, h1, r1⟩ := trodAll_cons r0
  obtain ⟨v2, vs2, d2, ds2, p2, q2, rfl, rfl, rfl, h2, r2⟩ := trodAll_cons r1
  obtain ⟨rfl, rfl, rfl⟩ := trodAll_nil r2
  obtain rfl : args = #[v0, v1, v2] := by cases args; simp_all
  obtain ⟨rfl, rfl⟩ := trodVars_none hV
  have k0 := h0
  have lt0 : ∀ x ∈ p0, x.block < W.heap.size := by obtain ⟨m, hm⟩ := k0; exact DataW.trod_lt m _ _ _ hm
  obtain ⟨a0, rfl⟩ := open_frag (hval 0 23 v0 rfl rfl) h0
  obtain ⟨a1, rfl, rfl, rfl, w1⟩ := open_string Try.underlying9 (hval 1 9 v1 rfl rfl) h1
  obtain ⟨a2, rfl, rfl, rfl⟩ := open_bool Try.underlying4 (hval 2 4 v2 rfl rfl) h2
  have z1 : a1.size ≤ 140737488351232 := by have := sized_string hsz (j := 1) (t := 9) rfl rfl; simpa [reachBytes] using this
  clear hA0 hval0
  refine (walk a0 a1 z1 a2 W).mono fun e W' ⟨he, bel⟩ => ?_
  subst he
  exact ⟨_, rfl, _, _, _, [], _, [], hW', trodAll_mk1 (shut_bool Try.underlying4 _), (trodAll_cons_mk (Below.trod laidOut (by kernel_rfl) (of_decide_eq_true (by kernel_rfl)) k0 bel lt0) (trodAll_cons_mk (shut_string Try.underlying9 w1) (trodAll_cons_mk (shut_bool Try.underlying4 _) trodAll_mk0))), rfl, bel.frame _, fun h => by cases h⟩

theorem over : Rows.mpBackRow.holds Try.pinned (OpenSpec.ofChange Rows.mpBackSpec) :=
  OpenClaim.holds_of_wide 4 Try.f4 rfl rfl rfl rfl rfl rfl rfl ⟨rfl, rfl, rfl, rfl, rfl⟩ rfl rfl rfl rfl rfl (by kernel_rfl) Try.func4 (by kernel_rfl)
    (of_decide_eq_true (by kernel_rfl)) (by unfold Func.isWrapper; first | (rw [if_pos (by decide +kernel)]; kernel_rfl) | (rw [if_neg (by decide +kernel)]; exact ⟨rfl, rfl⟩))
    (fun os started H enc _ => lifted os started H enc)

/-- The statement. -/
theorem proved : Rows.MpBackSaid := over
#print axioms proved
end Go.Proofs.Ytdpknandacoibaa.mpBack

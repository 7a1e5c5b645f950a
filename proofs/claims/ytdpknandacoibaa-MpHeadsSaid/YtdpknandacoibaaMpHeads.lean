/- Proved here: withylaw8.MpHeads returns true for every input and leaves its arguments as they were (the given statement Rows.MpHeadsSaid). Conditions: none. -/
import Derived.Test.YtdpknandacoibaaRows
import Derived.Test.YtdpknandacoibaaAwake
import Derived.Test.YtdpknandacoibaaOpen
import Derived.Lib.Hide
import Derived.WalkKit
import Derived.SizedLaws
import Derived.ProofKit
import Derived.OpenShut
import Derived.ShutString
import Derived.ChangeOld
import Derived.Below
namespace Go.Proofs.Ytdpknandacoibaa.mpHeads
open Go.ChangeShapes Go.WideShapes Go.ChangeAt Go.RowKit
open Plain
open Go.ChangeMaps (open_string shut_string)
set_option linter.unusedVariables false

theorem own : ownKnob Try.prog.godebug = none := by kernel_rfl
theorem laidOut : laidOutB Try.prog = true := by kernel_rfl

/- The walk: the law's text returns true. -/
set_option maxRecDepth 100000 in
set_option maxHeartbeats 2000000 in
theorem walk (a0 : Fr) (a1 : ByteArray) (w1 : a1.size ≤ 140737488351232) (a2 : Bool) (w : World) :
    Calls Try.prog 3 #[.agg #[.bool a0.b, .bool a0.e, .int .i64 a0.q, .string a0.d], .string a1, .bool a2] w fun e w' => e = .returned (.bool true) ∧ Below w.heap.size w w' := by
  have hs : a1.size ≤ 9223372036854775807 := by omega
  go_enter Try.func3, Try.ntmps3
  go_upto_region 1 with fail
  have hb := heap_alloc_new' w (.cells #[.bool a0.b, .bool a0.e, .int .i64 a0.q, .string a0.d] 23)
  have O0 := (Only.refl [] w).alloc (.cells #[.bool a0.b, .bool a0.e, .int .i64 a0.q, .string a0.d] 23)
  generalize World.alloc w _ = w1 at *
  generalize hW : w.heap.size = B at *
  have HW := Lib.hid hW
  clear hW
  have k0 := cell_of hb 0
  have k1 := cell_of hb 1
  have k2 := cell_of hb 2
  have k3 := cell_of hb 3
  simp only [List.getElem?_toArray, List.getElem?_cons_succ, List.getElem?_cons_zero] at k0 k1 k2 k3
  go_wp2_with fail
  refine (put_any a0 a2 w1).mono ?_
  rintro e w2 ⟨rfl, O1⟩
  have hb2 := O1.at hb (by simp)
  have O2 := O0.trans O1
  clear k0 k1 k2 k3 hb O0 O1
  have k0 := cell_of hb2 0
  have k1 := cell_of hb2 1
  have k2 := cell_of hb2 2
  have k3 := cell_of hb2 3
  simp only [List.getElem?_toArray, List.getElem?_cons_succ, List.getElem?_cons_zero] at k0 k1 k2 k3
  go_wp2_with fail
  refine (mp_any a0 a2 w2).mono ?_
  rintro e w3 ⟨rfl, O3⟩
  have O4 := O2.trans O3
  clear k0 k1 k2 k3 hb2 O2 O3
  generalize putS a0 a2 = S
  generalize putE a0 a2 = E
  go_wp2_with fail
  refine (get_x a1 a2 w3 hs).mono ?_
  rintro e w4 ⟨rfl, O5⟩
  have O6 := O4.trans O5
  clear O4 O5
  generalize hG : getF a1 a2 = G at *
  have HG := Lib.hid hG
  clear hG
  go_wp2_with fail
  have hc := heap_alloc_new' w4 (.cells #[.bool G.b, .bool G.e, .int .i64 G.q, .string G.d] 23)
  have O7 := O6.alloc (.cells #[.bool G.b, .bool G.e, .int .i64 G.q, .string G.d] 23)
  generalize World.alloc w4 _ = w5 at *
  generalize w4.heap.size = C at *
  refine (unmp_x a1 a2 w5 hs).mono ?_
  rintro e w6 ⟨rfl, O8⟩
  rw [HG.out]
  have hc6 := O8.at hc (by simp)
  have O9 := O7.trans O8
  clear O6 O7 O8 hc
  generalize getE a1 a2 = F
  go_wp2_with fail
  have hd := heap_alloc_new' w6 (.cells #[.bool G.b, .bool G.e, .int .i64 G.q, .string G.d] 23)
  have hc7 := ((Only.refl [] w6).alloc (.cells #[.bool G.b, .bool G.e, .int .i64 G.q, .string G.d] 23)).at hc6 (by simp)
  have O10 := O9.alloc (.cells #[.bool G.b, .bool G.e, .int .i64 G.q, .string G.d] 23)
  clear O9 hc6
  generalize World.alloc w6 _ = w7 at *
  generalize w6.heap.size = D at *
  have k0 := cell_of hc7 0
  have k1 := cell_of hc7 1
  have k2 := cell_of hc7 2
  have k3 := cell_of hc7 3
  simp only [List.getElem?_toArray, List.getElem?_cons_succ, List.getElem?_cons_zero] at k0 k1 k2 k3
  have l0 := cell_of hd 0
  have l1 := cell_of hd 1
  have l2 := cell_of hd 2
  have l3 := cell_of hd 3
  simp only [List.getElem?_toArray, List.getElem?_cons_succ, List.getElem?_cons_zero] at l0 l1 l2 l3
  clear hc7 hd
  have e2 : (E == E) = true := by simp
  have e3 : (F == F) = true := by simp
  go_wp2_with (first | (go_at_call 11; refine (num_any _ _).mono ?_; rintro e w' ⟨rfl, rfl⟩) | (go_at_call 12; refine (awake_any _).mono ?_; rintro e wz ⟨rfl, Oz⟩))
  go_ret
  exact ⟨rfl, (O10.trans Oz).below _ (Nat.le_refl _) (by simp)⟩

/- The row's step. -/
set_option maxRecDepth 100000 in
theorem lifted (os : Os) (started : os.Started) (H : Type) (enc : TypeId × Value → H) :
    ReturnsInHanded {} Try.checked os 3 .any (Rows.mpHeadsSpec.pre6 enc Try.prog Try.f3 Rows.mpHeadsRow.domain false) (Rows.mpHeadsSpec.post enc Try.prog Try.f3 false true false false) := by
  refine returnsInHanded_of_change_sized (C := Try.checked) own started (by kernel_rfl) Try.func3
    (ChangeSpec.witness6 (enc := enc) (C := Try.checked) false ⟨#[], #[.agg #[.bool false, .bool false, .int .i64 0, .string ByteArray.empty], .string ByteArray.empty, .bool false], []⟩ 8 (by kernel_rfl) (by kernel_rfl) (by kernel_rfl) (by kernel_rfl)) ?_
  intro W base args ds gs before hval0 hW hcnd hsz _
  have hval : ∀ (j : Nat) t v, Try.f3.params[j]? = some t → args[j]? = some v → Value.okWide Try.prog W .any base t v := hval0
  have hW' := hW
  obtain ⟨p, q, hA0, hV, rfl, hfz, hnd⟩ := hW
  have hA : DataW.TrodAll enc Try.prog W 0 (fun _ => true) true Try.f3.params.toList args.toList ds p := hA0
  rw [Try.params3] at hA hval
  obtain ⟨v0, vs0, d0, ds0, p0, q0, hargs, rfl, rfl, h0, r0⟩ := trodAll_cons hA
  obtain ⟨v1, vs1, d1, ds1, p1, q1, rfl, rfl, rfl, h1, r1⟩ := trodAll_cons r0
  obtain ⟨v2, vs2, d2, ds2, p2, q2, rfl, rfl, rfl, h2, r2⟩ := trodAll_cons r1
  obtain ⟨rfl, rfl, rfl⟩ := trodAll_nil r2
  obtain rfl : args = #[v0, v1, v2] := by cases args; simp_all
  obtain ⟨rfl, rfl⟩ := trodVars_none hV
  have k0 := h0
  have lt0 : ∀ x ∈ p0, x.block < W.heap.size := by obtain ⟨m, hm⟩ := k0; exact DataW.trod_lt m _ _ _ hm
  obtain ⟨a0, rfl⟩ := open_frag (hval 0 23 v0 rfl rfl) h0
  obtain ⟨a1, rfl, rfl, rfl, w1⟩ := open_string Try.underlying9 (hval 1 9 v1 rfl rfl) h1
  obtain ⟨a2, rfl, rfl, rfl⟩ := open_bool Try.underlying4 (hval 2 4 v2 rfl rfl) h2
  have z1 : a1.size ≤ 140737488351232 := by have := sized_string hsz (j := 1) (t := 9) rfl rfl; simpa [reachBytes] using this
  clear hA0 hval0
  refine (walk a0 a1 z1 a2 W).mono fun e W' ⟨he, bel⟩ => ?_
  subst he
  exact ⟨_, rfl, _, _, _, [], _, [], hW', trodAll_mk1 (shut_bool Try.underlying4 _), (trodAll_cons_mk (Below.trod laidOut (by kernel_rfl) (of_decide_eq_true (by kernel_rfl)) k0 bel lt0) (trodAll_cons_mk (shut_string Try.underlying9 w1) (trodAll_cons_mk (shut_bool Try.underlying4 _) trodAll_mk0))), rfl, bel.frame _, fun h => by cases h⟩

theorem over : Rows.mpHeadsRow.holds Try.pinned (OpenSpec.ofChange Rows.mpHeadsSpec) :=
  OpenClaim.holds_of_wide 3 Try.f3 rfl rfl rfl rfl rfl rfl rfl ⟨rfl, rfl, rfl, rfl, rfl⟩ rfl rfl rfl rfl rfl (by kernel_rfl) Try.func3 (by kernel_rfl)
    (of_decide_eq_true (by kernel_rfl)) (by unfold Func.isWrapper; first | (rw [if_pos (by decide +kernel)]; kernel_rfl) | (rw [if_neg (by decide +kernel)]; exact ⟨rfl, rfl⟩))
    (fun os started H enc _ => lifted os started H enc)

/-- The statement. -/
theorem proved : Rows.MpHeadsSaid := over
#print axioms proved
end Go.Proofs.Ytdpknandacoibaa.mpHeads

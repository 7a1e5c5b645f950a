/- Proved here: withylaw24.Targets returns true for every input and leaves its arguments as they were (the given statement Rows.TargetsSaid). Conditions: none. -/
import Derived.Test.YtbpfmpldbafepaaRows
import Derived.Test.YtbpfmpldbafepaaAwake
import Derived.Test.YtbpfmpldbafepaaMask
import Derived.Test.YtbpfmpldbafepaaOpen
import Derived.Test.YtbpfmpldbafepaaRegion4
import Derived.Lib.Hide
import Derived.WalkKit
import Derived.SizedLaws
import Derived.ProofKit
import Derived.OpenShut
import Derived.ShutString
import Derived.ChangeOld
import Derived.Below
namespace Go.Proofs.Ytbpfmpldbafepaa.targets
open Go.ChangeShapes Go.WideShapes Go.ChangeAt Go.RowKit
open Plain
open Go.ChangeMaps (open_string shut_string)
set_option linter.unusedVariables false

theorem own : ownKnob Try.prog.godebug = none := by kernel_rfl
theorem laidOut : laidOutB Try.prog = true := by kernel_rfl

theorem cfg_cell {c : Cfg} {w : World} {g : Nat} (h : w.heap[g]? = some (.cells (cells c) 23)) : w.cell? ⟨g, 1, none⟩ = some (.int .i64 c.links) ∧ w.cell? ⟨g, 2, none⟩ = some (.int .i64 c.least) ∧ w.cell? ⟨g, 3, none⟩ = some (.int .i64 c.rate) :=
  ⟨at_cfg h 1, at_cfg h 2, at_cfg h 3⟩

theorem range_cfg {c : Cfg} {w : World} {g : Nat} (h : w.heap[g]? = some (.cells (cells c) 23)) : w.rangeAt g 0 (cells c).toList := fun j v hv => by
  rw [Nat.zero_add, cell_of h]
  simpa using hv
theorem range_only {w w' : World} {g : Nat} {cs : List Value} (h : w.rangeAt g 0 cs) (ho : Only [] w w') : w'.rangeAt g 0 cs := fun j v hv =>
  (World.cell?_of_block (ho.block g (World.block_lt_of_cell? w _ (h j v hv)) (by simp))).trans (h j v hv)
theorem exec_load {c : Cfg} {w : World} {g : Nat} {a : Act} {x : Operand} {dst : Option Tmp} {ty : TypeId} {pos : String} {after : Array Edge} {gd : Option (Nat × Bool)} (hx : a.eval x = .pointer (some ⟨g, 0, none⟩)) (hg : w.heap[g]? = some (.cells (cells c) 23)) :
    (execOp a.eval { dst := dst, op := .load 23 x, type := ty, pos := pos, after := after, guard := gd }).run Try.prog w = .ok (.value (.agg (cells c))) w := by
  unfold execOp
  simp only [hx, Instr.loadAt, Instr.sureAddr, Sem.run_bind, Sem.run_pure, Result.andThen_ok, run_loadVar_row w g 23 23 (cells c) (0, 0) _ hg Try.underlying23 rfl (sz23 c)]
theorem mixed : Try.prog.follows .mixedOrders = true := by kernel_rfl
/-- the program and the reference give one answer. -/
theorem both (load : Int) (c : Cfg) (hb : load ≤ 9223372036854775807) : ∃ r code : Int,
    Hid (∀ w, Calls Try.prog 7 #[.int .i64 load, .agg (cells c)] w fun e w' => e = .returned (.tuple #[.int .i64 r, .int .i64 code]) ∧ Only [] w w') ∧
    Hid (∀ w, Calls Try.prog 8 #[.int .i64 load, .agg (cells c)] w fun e w' => e = .returned (.tuple #[.int .i64 r, .int .i64 code]) ∧ Only [] w w') := by
  by_cases hm : mayB c = true ∧ 0 ≤ load
  · exact ⟨_, _, fun w => links_ok load c w hm.1 hm.2 hb, fun w => rlinks_ok load c w hm.1 hm.2 hb⟩
  · have h : mayB c = false ∨ load < 0 := by
      cases h : mayB c
      · exact .inl rfl
      · right
        rcases Int.lt_or_le load 0 with h1 | h1
        · exact h1
        · exact absurd ⟨h, h1⟩ hm
    exact ⟨_, _, fun w => links_bad load c w h, fun w => rlinks_bad load c w h⟩

/- The walk: the law's text returns true. -/
set_option maxRecDepth 100000 in
set_option maxHeartbeats 2000000 in
theorem walk (a0 : Int) (w0 : (Lit.int .i64 a0).wf = true) (a1 : Cfg) (w : World) :
    Calls Try.prog 3 #[.int .i64 a0, .agg (cells a1)] w fun e w' => e = .returned (.bool true) ∧ Below w.heap.size w w' := by
  have hb := bounds_i64 w0
  have O0 : Only [] w (w.alloc (.cells (cells a1) 23)) := (Only.refl _ _).alloc _
  have hg := heap_alloc_new' w (.cells (cells a1) 23)
  obtain ⟨r, code, H7, H8⟩ := both a0 a1 hb.2
  go_enter Try.func3, Try.ntmps3
  go_upto_region 1 with fail
  generalize World.alloc _ _ = w1 at *
  generalize w.heap.size = B at *
  go_wp2_with (with_reducible refine wpList_load_row rfl 23 (.tmp 3) rfl _ rfl 23 (cells a1) (0, 0) _ hg Try.underlying23 rfl (sz23 a1) ?_)
  refine (H7.out w1).mono ?_
  rintro e w2 ⟨rfl, O1⟩
  have hg2 := O1.at hg (by simp)
  go_wp2_with (with_reducible refine wpList_load_row rfl 23 (.tmp 3) rfl _ rfl 23 (cells a1) (0, 0) _ hg2 Try.underlying23 rfl (sz23 a1) ?_)
  refine (H8.out w2).mono ?_
  rintro e w3 ⟨rfl, O2⟩
  have hg3 := O2.at hg2 (by simp)
  have O3 := (O0.trans O1).trans O2
  clear O0 O1 O2 hg hg2
  go_upto_region 3 with fail
  have O4 := Only.refl [] w3
  refine wp_region_mix (fun w' => Only [] w3 w') [(0, true), (1, false), (2, false), (3, false), (4, true), (6, true), (5, false), (7, false), (8, false), (9, false), (10, true), (12, true), (11, false), (13, false), (14, false), (15, false), (16, false), (17, false), (18, false), (19, false)] mixed (by kernel_rfl) (fun d v c a w h => by cases d <;> exact h) O4.drew ?_
  have hS := O4.drew
  simp only [List.filterMap_cons, List.filterMap_nil, List.getElem?_cons_succ, List.getElem?_cons_zero, Option.map_some]
  clear O4
  repeat (first | refine mix_move rfl ?_ | (refine mix_op rfl (fun K hK => ?_); go_step; refine hK _ _ hS ?_; clear hK K))
  refine mix_op rfl (fun K hK => ?_)
  go_step
  refine (num_any _ _).mono ?_
  rintro e w' ⟨rfl, rfl⟩
  refine hK _ _ hS ?_
  clear hK K
  repeat (first | refine mix_move rfl ?_ | (refine mix_op rfl (fun K hK => ?_); go_step; refine hK _ _ hS ?_; clear hK K))
  refine mix_free rfl (fun w' h' => exec_load rfl (h'.at hg3 (by simp))) ?_
  refine mix_free rfl (fun w' h' => exec_load rfl (h'.at hg3 (by simp))) ?_
  refine mix_op rfl (fun K hK => ?_)
  go_step
  refine (may_any a1 _).mono ?_
  rintro e w4 ⟨rfl, O5⟩
  have hS2 := hS.trans O5
  refine hK _ _ hS2 ?_
  clear hK K hS
  refine mix_op rfl (fun K hK => ?_)
  go_step
  refine (rmay_any a1 _).mono ?_
  rintro e w5 ⟨rfl, O6⟩
  have hS := hS2.trans O6
  refine hK _ _ hS ?_
  clear hK K hS2 O5 O6
  rw [rMayB_eq]
  generalize mayB a1 = mb
  repeat (first | refine mix_move rfl ?_ | (refine mix_op rfl (fun K hK => ?_); go_step; refine hK _ _ hS ?_; clear hK K))
  refine mix_op rfl (fun K hK => ?_)
  go_step
  refine (awake_any _).mono ?_
  rintro e w6 ⟨rfl, O7⟩
  have hS2 := hS.trans O7
  refine hK _ _ hS2 ?_
  clear hK K
  repeat (first | refine mix_move rfl ?_ | (refine mix_op rfl (fun K hK => ?_); go_step; refine hK _ _ hS2 ?_; clear hK K))
  refine mix_nil ?_
  go_wp2
  go_ret
  exact ⟨rfl, (O3.trans hS2).below _ (Nat.le_refl _) (by simp)⟩

/- The row's step. -/
set_option maxRecDepth 100000 in
theorem lifted (os : Os) (started : os.Started) (H : Type) (enc : TypeId × Value → H) :
    ReturnsInHanded {} Try.checked os 3 .any (Rows.targetsSpec.pre6 enc Try.prog Try.f3 Rows.targetsRow.domain false) (Rows.targetsSpec.post enc Try.prog Try.f3 false true false false) := by
  refine returnsInHanded_of_change_sized (C := Try.checked) own started (by kernel_rfl) Try.func3
    (ChangeSpec.witness6 (enc := enc) (C := Try.checked) false ⟨#[], #[.int .i64 0, .agg #[.int .i64 0, .int .i64 0, .int .i64 0, .int .i64 0, .int .i64 0, .int .i64 0, .int .i64 0, .int .i64 0, .int .i64 0, .int .i64 0, .int .i64 0, .int .i64 0, .bool false, .string ByteArray.empty, .string ByteArray.empty, .string ByteArray.empty, .int .i64 0, .int .i64 0]], []⟩ 8 (by kernel_rfl) (by kernel_rfl) (by kernel_rfl) (by kernel_rfl)) ?_
  intro W base args ds gs before hval0 hW hcnd hsz _
  have hval : ∀ (j : Nat) t v, Try.f3.params[j]? = some t → args[j]? = some v → Value.okWide Try.prog W .any base t v := hval0
  have hW' := hW
  obtain ⟨p, q, hA0, hV, rfl, hfz, hnd⟩ := hW
  have hA : DataW.TrodAll enc Try.prog W 0 (fun _ => true) true Try.f3.params.toList args.toList ds p := hA0
  rw [Try.params3] at hA hval
  obtain ⟨v0, vs0, d0, ds0, p0, q0, hargs, rfl, rfl, h0, r0⟩ := trodAll_cons hA
  obtain ⟨v1, vs1, d1, ds1, p1, q1, rfl, rfl, rfl, h1, r1⟩ := trodAll_cons r0
  obtain ⟨rfl, rfl, rfl⟩ := trodAll_nil r1
  obtain rfl : args = #[v0, v1] := by cases args; simp_all
  obtain ⟨rfl, rfl⟩ := trodVars_none hV
  obtain ⟨a0, rfl, rfl, rfl, w0⟩ := open_int Try.underlying3 (hval 0 3 v0 rfl rfl) h0
  have k1 := h1
  have lt1 : ∀ x ∈ p1, x.block < W.heap.size := by obtain ⟨m, hm⟩ := k1; exact DataW.trod_lt m _ _ _ hm
  obtain ⟨a1, rfl⟩ := open_cfg (hval 1 23 v1 rfl rfl) h1
  clear hA0 hval0
  refine (walk a0 w0 a1 W).mono fun e W' ⟨he, bel⟩ => ?_
  subst he
  exact ⟨_, rfl, _, _, _, [], _, [], hW', trodAll_mk1 (shut_bool Try.underlying4 _), (trodAll_cons_mk (shut_int Try.underlying3 w0) (trodAll_cons_mk (Below.trod laidOut (by kernel_rfl) (of_decide_eq_true (by kernel_rfl)) k1 bel lt1) trodAll_mk0)), rfl, bel.frame _, fun h => by cases h⟩

theorem over : Rows.targetsRow.holds Try.pinned (OpenSpec.ofChange Rows.targetsSpec) :=
  OpenClaim.holds_of_wide 3 Try.f3 rfl rfl rfl rfl rfl rfl rfl ⟨rfl, rfl, rfl, rfl, rfl⟩ rfl rfl rfl rfl rfl (by kernel_rfl) Try.func3 (by kernel_rfl)
    (of_decide_eq_true (by kernel_rfl)) (by unfold Func.isWrapper; first | (rw [if_pos (by decide +kernel)]; kernel_rfl) | (rw [if_neg (by decide +kernel)]; exact ⟨rfl, rfl⟩))
    (fun os started H enc _ => lifted os started H enc)

/-- The statement. -/
theorem proved : Rows.TargetsSaid := over
#print axioms proved
end Go.Proofs.Ytbpfmpldbafepaa.targets

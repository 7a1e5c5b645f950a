/- Proved here: withylaw24.TargetForms returns true for every input and leaves its arguments as they were (the given statement Rows.TargetFormsSaid). Conditions: none. -/
import Derived.Test.YtbpfmpldbafepaaRows
import Derived.Test.YtbpfmpldbafepaaAwake
import Derived.Test.YtbpfmpldbafepaaMask
import Derived.WalkKit
import Derived.Lib.Hide
import Derived.Deep.DeepCutAuto
import Derived.Deep.CutBlock
import Derived.Laws.BytesArg
import Derived.ProofKit
import Derived.OpenShut
import Derived.ShutString
namespace Go.Proofs.Ytbpfmpldbafepaa.targetForms
open Go.ChangeShapes Go.WideShapes Go.ChangeAt Go.RowKit
open Plain
open Go.ChangeMaps (open_string shut_string)
set_option linter.unusedVariables false      -- a walk need not use every 'w<i>' (that an integer argument fits its kind)

theorem own : ownKnob Try.prog.godebug = none := by kernel_rfl

theorem cfg_cell {c : Cfg} {w : World} {g : Nat} (h : w.heap[g]? = some (.cells (cells c) 23)) : w.cell? ⟨g, 1, none⟩ = some (.int .i64 c.links) ∧ w.cell? ⟨g, 2, none⟩ = some (.int .i64 c.least) ∧ w.cell? ⟨g, 3, none⟩ = some (.int .i64 c.rate) :=
  ⟨at_cfg h 1, at_cfg h 2, at_cfg h 3⟩

theorem exec_load {c : Cfg} {w : World} {g : Nat} {a : Act} {x : Operand} {dst : Option Tmp} {ty : TypeId} {pos : String} {after : Array Edge} {gd : Option (Nat × Bool)} (hx : a.eval x = .pointer (some ⟨g, 0, none⟩)) (hg : w.heap[g]? = some (.cells (cells c) 23)) :
    (execOp a.eval { dst := dst, op := .load 23 x, type := ty, pos := pos, after := after, guard := gd }).run Try.prog w = .ok (.value (.agg (cells c))) w := by
  unfold execOp
  simp only [hx, Instr.loadAt, Instr.sureAddr, Sem.run_bind, Sem.run_pure, Result.andThen_ok, run_loadVar_row w g 23 23 (cells c) (0, 0) _ hg Try.underlying23 rfl (sz23 c)]
theorem mixed : Try.prog.follows .mixedOrders = true := by kernel_rfl
theorem load_g {ops : Array Oper} {rest : List Oper} {a : Act} {Q : Exit → Act → World → Prop} {w : World} {c : Cfg} {B : Nat} {dst : Option Tmp} {ty : TypeId} {pos : String} {after : Array Edge} {x : Operand} {gd : Option (Nat × Bool)}
    (hw : Region.wanted { dst := dst, op := .load 23 x, type := ty, pos := pos, after := after, guard := gd } (yielded ops a.tmps) = true) (hx : a.eval x = .pointer (some ⟨B, 0, none⟩)) (hg : w.heap[B]? = some (.cells (cells c) 23))
    (h : wpList Try.prog ops Q rest (a.put dst (.agg (cells c))) w) : wpList Try.prog ops Q ({ dst := dst, op := .load 23 x, type := ty, pos := pos, after := after, guard := gd } :: rest) a w := by
  unfold wpList
  rw [if_pos hw]
  refine .inl ?_
  unfold Oper.wp
  rw [exec_load hx hg]
  exact h

theorem mayB_no {c : Cfg} (h : ¬ MayP c) : mayB c = false := by
  cases hm : mayB c
  · rfl
  · exact absurd ((mayB_iff c).1 hm) h
/-- string(make([]byte, k)): a string of k bytes. -/
theorem made (w : World) (k : Int) (h0 : 0 ≤ k) (h1 : k ≤ 2047) : ∃ wb s, (Instr.makeSlice 36 (.int .i64 k) (.int .i64 k)).run Try.prog w = .ok (.slice (some ⟨w.heap.size, 0, none⟩) k.toNat k.toNat) wb ∧
    (convert 36 9 (.slice (some ⟨w.heap.size, 0, none⟩) k.toNat k.toNat)).run Try.prog wb = .ok (.string s) wb ∧ s.size = k.toNat ∧ Only [] w wb := by
  obtain ⟨i, hi, hz, hs, hb⟩ := info_parts (P := Try.prog) (e := 5) (z := .int .u8 0) (size := 1) (bytes := 1) (by kernel_rfl)
  have hr := run_make (P := Try.prog) w 36 5 i _ Try.underlying36 hi hz .i64 .i64 k k h0 (Int.le_refl _) (by rw [hb]; omega) (by omega)
  rw [hs, Nat.mul_one] at hr
  refine ⟨_, strOfNums (List.replicate k.toNat 0), hr, ?_, by simp [strOfNums, ByteArray.size], (Only.refl _ _).alloc _⟩
  refine run_convert_bytes_arg _ 36 5 Try.underlying36 (by kernel_rfl) _ 0 _ _ (List.replicate k.toNat 0) (by simp) (fun j hj => ?_) 9 Try.underlying9
  rw [cell_of (heap_alloc_new' w _)]
  have : (madeCells #[Value.int .u8 0] k.toNat)[0 + j]? = some (.int .u8 0) := by
    rw [← Array.getElem?_toList, toList_madeCells_one]
    simp [hj]
  rw [show (List.replicate k.toNat (0:Int)).getD j 0 = 0 by simp [List.getD, hj]]
  exact this

/- The walk: the law's text returns true. -/
set_option maxRecDepth 100000 in
set_option maxHeartbeats 8000000 in
theorem walk (a0 : Int) (a1 : Int) (w0 : (Lit.int .i64 a0).wf = true) (w1 : (Lit.int .i64 a1).wf = true) (w : World) :
    Calls Try.prog 5 #[.int .i64 a0, .int .i64 a1] w fun e w' => e = .returned (.bool true) ∧ Below w.heap.size w w' := by
  have M0 := and_63 a1
  have M1 : 0 ≤ a1 % 64 := by omega
  have M2 : a1 % 64 ≤ 63 := by omega
  generalize a1 % 64 = m at *
  have U0 := u64_nonneg a0
  have U1 : 0 ≤ IntKind.u64.wrap a0 % 20 := by omega
  have U2 : IntKind.u64.wrap a0 % 20 ≤ 19 := by omega
  go_enter Try.func5, Try.ntmps5
  go_wp2_with fail
  refine (awake_any w).mono ?_
  rintro e wa ⟨rfl, Oa⟩
  go_wp2_with fail
  refine (plain_any wa).mono ?_
  rintro e wb ⟨rfl, Ob⟩
  go_upto_region 4 with ((with_reducible apply store_new); (focus rfl); (focus rfl); intro w1 hg1 O1)
  have O2 := (Oa.trans Ob).trans O1
  have hB := (Oa.trans Ob).size
  generalize wb.heap.size = B at *
  clear Oa Ob O1
  go_upto_block 0 with fail
  generalize IntKind.u64.wrap a0 % 20 = u at *
  clear M0 U0
  go_cut [21] (fun _ wx => ∃ c, mayB c = false ∧ wx.heap[B]? = some (.cells (cells c) 23) ∧ Only [] w wx)
  case first =>
    rcases (show u = 0 ∨ u = 1 ∨ u = 2 ∨ u = 3 ∨ u = 4 ∨ u = 5 ∨ u = 6 ∨ u = 7 ∨ u = 8 ∨ u = 9 ∨ u = 10 ∨ u = 11 ∨ u = 12 ∨ u = 13 ∨ u = 14 ∨ u = 15 ∨ u = 16 ∨ u = 17 ∨ u = 18 ∨ u = 19 by omega) with rfl | rfl | rfl | rfl | rfl | rfl | rfl | rfl | rfl | rfl | rfl | rfl | rfl | rfl | rfl | rfl | rfl | rfl | rfl | rfl
    · as_aux_lemma =>
        have c0 := at_cfg hg1 0
        simp only [cells, plainC, List.getElem?_toArray, List.getElem?_cons_succ, List.getElem?_cons_zero] at c0
        have fz := frozen_of hg1 0
        have hno : mayB { plainC with ports := 8 + (1 + m) } = false := mayB_no (by unfold MayP plainC; simp only; omega)
        have HN := Lib.hid hno
        clear hno
        go_wp2
        go_meet
        exact ⟨_, HN.out, heap_setCell_same hg1 _, O2.setCell (.inr hB) _⟩
    · as_aux_lemma =>
        have c0 := at_cfg hg1 0
        simp only [cells, plainC, List.getElem?_toArray, List.getElem?_cons_succ, List.getElem?_cons_zero] at c0
        have fz := frozen_of hg1 0
        have hno : mayB { plainC with ports := 1 - (1 + m) } = false := mayB_no (by unfold MayP plainC; simp only; omega)
        have HN := Lib.hid hno
        clear hno
        go_wp2
        go_meet
        exact ⟨_, HN.out, heap_setCell_same hg1 _, O2.setCell (.inr hB) _⟩
    · as_aux_lemma =>
        have c1 := at_cfg hg1 1
        have c0 := at_cfg hg1 0
        simp only [cells, plainC, List.getElem?_toArray, List.getElem?_cons_succ, List.getElem?_cons_zero] at c1 c0
        have fz := frozen_of hg1 1
        have hno : mayB { plainC with links := 4 + (1 + m) } = false := mayB_no (by unfold MayP plainC; simp only; omega)
        have HN := Lib.hid hno
        clear hno
        go_wp2
        go_meet
        exact ⟨_, HN.out, heap_setCell_same hg1 _, O2.setCell (.inr hB) _⟩
    · as_aux_lemma =>
        have c2 := at_cfg hg1 2
        have c1 := at_cfg hg1 1
        simp only [cells, plainC, List.getElem?_toArray, List.getElem?_cons_succ, List.getElem?_cons_zero] at c2 c1
        have fz := frozen_of hg1 2
        have hno : mayB { plainC with least := 3 + (1 + m) } = false := mayB_no (by unfold MayP plainC; simp only; omega)
        have HN := Lib.hid hno
        clear hno
        go_wp2
        go_meet
        exact ⟨_, HN.out, heap_setCell_same hg1 _, O2.setCell (.inr hB) _⟩
    · as_aux_lemma =>
        have c2 := at_cfg hg1 2
        simp only [cells, plainC, List.getElem?_toArray, List.getElem?_cons_succ, List.getElem?_cons_zero] at c2
        have fz := frozen_of hg1 2
        have hno : mayB { plainC with least := 1 - (1 + m) } = false := mayB_no (by unfold MayP plainC; simp only; omega)
        have HN := Lib.hid hno
        clear hno
        go_wp2
        go_meet
        exact ⟨_, HN.out, heap_setCell_same hg1 _, O2.setCell (.inr hB) _⟩
    · as_aux_lemma =>
        have c3 := at_cfg hg1 3
        simp only [cells, plainC, List.getElem?_toArray, List.getElem?_cons_succ, List.getElem?_cons_zero] at c3
        have fz := frozen_of hg1 3
        have hno : mayB { plainC with rate := 64 - (1 + m) } = false := mayB_no (by unfold MayP plainC; simp only; omega)
        have HN := Lib.hid hno
        clear hno
        go_wp2
        go_meet
        exact ⟨_, HN.out, heap_setCell_same hg1 _, O2.setCell (.inr hB) _⟩
    · as_aux_lemma =>
        have c3 := at_cfg hg1 3
        simp only [cells, plainC, List.getElem?_toArray, List.getElem?_cons_succ, List.getElem?_cons_zero] at c3
        have fz := frozen_of hg1 3
        have hno : mayB { plainC with rate := 4096 + (1 + m) } = false := mayB_no (by unfold MayP plainC; simp only; omega)
        have HN := Lib.hid hno
        clear hno
        go_wp2
        go_meet
        exact ⟨_, HN.out, heap_setCell_same hg1 _, O2.setCell (.inr hB) _⟩
    · as_aux_lemma =>
        have c4 := at_cfg hg1 4
        simp only [cells, plainC, List.getElem?_toArray, List.getElem?_cons_succ, List.getElem?_cons_zero] at c4
        have fz := frozen_of hg1 4
        have hno : mayB { plainC with window := 64 + (1 + m) } = false := mayB_no (by unfold MayP plainC; simp only; omega)
        have HN := Lib.hid hno
        clear hno
        go_wp2
        go_meet
        exact ⟨_, HN.out, heap_setCell_same hg1 _, O2.setCell (.inr hB) _⟩
    · as_aux_lemma =>
        have c5 := at_cfg hg1 5
        simp only [cells, plainC, List.getElem?_toArray, List.getElem?_cons_succ, List.getElem?_cons_zero] at c5
        have fz := frozen_of hg1 5
        have hno : mayB { plainC with high := 1000 + (1 + m) } = false := mayB_no (by unfold MayP plainC; simp only; omega)
        have HN := Lib.hid hno
        clear hno
        go_wp2
        go_meet
        exact ⟨_, HN.out, heap_setCell_same hg1 _, O2.setCell (.inr hB) _⟩
    · as_aux_lemma =>
        have c6 := at_cfg hg1 6
        have c5 := at_cfg hg1 5
        simp only [cells, plainC, List.getElem?_toArray, List.getElem?_cons_succ, List.getElem?_cons_zero] at c6 c5
        have fz := frozen_of hg1 6
        have hno : mayB { plainC with low := 800 - 1 + (1 + m) } = false := mayB_no (by unfold MayP plainC; simp only; omega)
        have HN := Lib.hid hno
        clear hno
        go_wp2
        go_meet
        exact ⟨_, HN.out, heap_setCell_same hg1 _, O2.setCell (.inr hB) _⟩
    · as_aux_lemma =>
        have c7 := at_cfg hg1 7
        simp only [cells, plainC, List.getElem?_toArray, List.getElem?_cons_succ, List.getElem?_cons_zero] at c7
        have fz := frozen_of hg1 7
        have hno : mayB { plainC with hold := 64 + (1 + m) } = false := mayB_no (by unfold MayP plainC; simp only; omega)
        have HN := Lib.hid hno
        clear hno
        go_wp2
        go_meet
        exact ⟨_, HN.out, heap_setCell_same hg1 _, O2.setCell (.inr hB) _⟩
    · as_aux_lemma =>
        have c8 := at_cfg hg1 8
        have c9 := at_cfg hg1 9
        simp only [cells, plainC, List.getElem?_toArray, List.getElem?_cons_succ, List.getElem?_cons_zero] at c8 c9
        have fz := frozen_of hg1 8
        have hno : mayB { plainC with base := 8 + (1 + m) } = false := mayB_no (by unfold MayP plainC; simp only; omega)
        have HN := Lib.hid hno
        clear hno
        go_wp2
        go_meet
        exact ⟨_, HN.out, heap_setCell_same hg1 _, O2.setCell (.inr hB) _⟩
    · as_aux_lemma =>
        have c9 := at_cfg hg1 9
        simp only [cells, plainC, List.getElem?_toArray, List.getElem?_cons_succ, List.getElem?_cons_zero] at c9
        have fz := frozen_of hg1 9
        have hno : mayB { plainC with cap := 64 + (1 + m) } = false := mayB_no (by unfold MayP plainC; simp only; omega)
        have HN := Lib.hid hno
        clear hno
        go_wp2
        go_meet
        exact ⟨_, HN.out, heap_setCell_same hg1 _, O2.setCell (.inr hB) _⟩
    · as_aux_lemma =>
        have c10 := at_cfg hg1 10
        simp only [cells, plainC, List.getElem?_toArray, List.getElem?_cons_succ, List.getElem?_cons_zero] at c10
        have fz := frozen_of hg1 10
        have hno : mayB { plainC with restart := 16 + (1 + m) } = false := mayB_no (by unfold MayP plainC; simp only; omega)
        have HN := Lib.hid hno
        clear hno
        go_wp2
        go_meet
        exact ⟨_, HN.out, heap_setCell_same hg1 _, O2.setCell (.inr hB) _⟩
    · as_aux_lemma =>
        have c11 := at_cfg hg1 11
        simp only [cells, plainC, List.getElem?_toArray, List.getElem?_cons_succ, List.getElem?_cons_zero] at c11
        have fz := frozen_of hg1 11
        have hno : mayB { plainC with tries := 2 - (1 + m) } = false := mayB_no (by unfold MayP plainC; simp only; omega)
        have HN := Lib.hid hno
        clear hno
        go_wp2
        go_meet
        exact ⟨_, HN.out, heap_setCell_same hg1 _, O2.setCell (.inr hB) _⟩
    · as_aux_lemma =>
        have c13 := at_cfg hg1 13
        simp only [cells, plainC, List.getElem?_toArray, List.getElem?_cons_succ, List.getElem?_cons_zero] at c13
        have fz := frozen_of hg1 13
        have hno : mayB { plainC with sa := ⟨#[]⟩ } = false := mayB_no (by unfold MayP plainC; simp [ByteArray.size])
        have HN := Lib.hid hno
        clear hno
        go_wp2
        go_meet
        exact ⟨_, HN.out, heap_setCell_same hg1 _, O2.setCell (.inr hB) _⟩
    · as_aux_lemma =>
        have c15 := at_cfg hg1 15
        simp only [cells, plainC, List.getElem?_toArray, List.getElem?_cons_succ, List.getElem?_cons_zero] at c15
        obtain ⟨w2, s, R1, R2, hsz, O3⟩ := made w1 (64 + (1 + m)) (by omega) (by omega)
        have hg2 := O3.at hg1 (by simp)
        have fz := frozen_of hg2 15
        have c15' := (at_cfg hg2 15)
        simp only [cells, plainC, List.getElem?_toArray, List.getElem?_cons_succ, List.getElem?_cons_zero] at c15'
        have O4 := O2.trans O3
        have hno : mayB { plainC with ex := s } = false := mayB_no (by unfold MayP plainC; simp only; omega)
        have HN := Lib.hid hno
        clear hno c15 hsz O2 O3
        go_wp2
        go_meet
        exact ⟨_, HN.out, heap_setCell_same hg2 _, O4.setCell (.inr hB) _⟩
    · as_aux_lemma =>
        have c16 := at_cfg hg1 16
        have c17 := at_cfg hg1 17
        simp only [cells, plainC, List.getElem?_toArray, List.getElem?_cons_succ, List.getElem?_cons_zero] at c16 c17
        have fz := frozen_of hg1 16
        have hno : mayB { plainC with ma := 2 } = false := mayB_no (by unfold MayP plainC; simp only; omega)
        have HN := Lib.hid hno
        clear hno
        go_wp2
        go_meet
        exact ⟨_, HN.out, heap_setCell_same hg1 _, O2.setCell (.inr hB) _⟩
    · as_aux_lemma =>
        have c17 := at_cfg hg1 17
        simp only [cells, plainC, List.getElem?_toArray, List.getElem?_cons_succ, List.getElem?_cons_zero] at c17
        have fz := frozen_of hg1 17
        have hno : mayB { plainC with mb := 1 - (1 + m) } = false := mayB_no (by unfold MayP plainC; simp only; omega)
        have HN := Lib.hid hno
        clear hno
        go_wp2
        go_meet
        exact ⟨_, HN.out, heap_setCell_same hg1 _, O2.setCell (.inr hB) _⟩
    · as_aux_lemma =>
        have c16 := at_cfg hg1 16
        simp only [cells, plainC, List.getElem?_toArray, List.getElem?_cons_succ, List.getElem?_cons_zero] at c16
        have fz := frozen_of hg1 16
        have hno : mayB { plainC with ma := 4294967295 + (1 + m) } = false := mayB_no (by unfold MayP plainC; simp only; omega)
        have HN := Lib.hid hno
        clear hno
        go_wp2
        go_meet
        exact ⟨_, HN.out, heap_setCell_same hg1 _, O2.setCell (.inr hB) _⟩
  case rest =>
  obtain ⟨c, hm, hg, O3⟩ := hcut
  clear hg1 O2
  go_wp2_with (with_reducible refine wpList_load_row rfl 23 (.tmp 5) rfl _ rfl 23 (cells c) (0, 0) _ hg Try.underlying23 rfl (sz23 c) ?_)
  refine (links_bad 5 c _ (.inl hm)).mono ?_
  rintro e w2 ⟨rfl, O4⟩
  have hg2 := O4.at hg (by simp)
  have O5 := O3.trans O4
  clear hg O3 O4
  go_wp2_with fail
  refine (plain_any w2).mono ?_
  rintro e w3 ⟨rfl, O6⟩
  have hg3 := O6.at hg2 (by simp)
  have O7 := O5.trans O6
  clear hg2 O5 O6
  go_wp2_with fail
  refine (may_any plainC w3).mono ?_
  rintro e w4 ⟨rfl, O8⟩
  rw [plain_may]
  have hg4 := O8.at hg3 (by simp)
  have O9 := O7.trans O8
  clear hg3 O7 O8
  go_wp2_with ((with_reducible apply load_g); (focus rfl); (focus rfl); (focus exact hg4))
  refine (may_any c w4).mono ?_
  rintro e w5 ⟨rfl, O10⟩
  rw [hm]
  have O11 := O9.trans O10
  clear hg4 O9 O10
  go_wp2_with (go_at_call 9; refine (num_any _ _).mono ?_; rintro e w' ⟨rfl, rfl⟩)
  go_ret
  exact ⟨rfl, O11.below _ (Nat.le_refl _) (by simp)⟩

/- The row's step. -/
set_option maxRecDepth 100000 in
theorem lifted (os : Os) (started : os.Started) (H : Type) (enc : TypeId × Value → H) :
    ReturnsInHanded {} Try.checked os 5 .any (Rows.targetFormsSpec.pre6 enc Try.prog Try.f5 Rows.targetFormsRow.domain false) (Rows.targetFormsSpec.post enc Try.prog Try.f5 false true false false) := by
  refine returnsInHanded_of_change (C := Try.checked) own started (by kernel_rfl) Try.func5
    (ChangeSpec.witness6 (enc := enc) (C := Try.checked) false ⟨#[], #[.int .i64 0, .int .i64 0], []⟩ 8 (by kernel_rfl) (by kernel_rfl) (by kernel_rfl) (by kernel_rfl)) ?_
  intro W base args ds gs before hval0 hW hcnd _
  have hval : ∀ (j : Nat) t v, Try.f5.params[j]? = some t → args[j]? = some v → Value.okWide Try.prog W .any base t v := hval0
  have hW' := hW
  obtain ⟨p, q, hA0, hV, rfl, hfz, hnd⟩ := hW
  have hA : DataW.TrodAll enc Try.prog W 0 (fun _ => true) true Try.f5.params.toList args.toList ds p := hA0
  rw [Try.params5] at hA hval
  obtain ⟨v0, vs0, d0, ds0, p0, q0, hargs, rfl, rfl, h0, r0⟩ := trodAll_cons hA
  obtain ⟨v1, vs1, d1, ds1, p1, q1, rfl, rfl, rfl, h1, r1⟩ := trodAll_cons r0
  obtain ⟨rfl, rfl, rfl⟩ := trodAll_nil r1
  obtain rfl : args = #[v0, v1] := by cases args; simp_all
  obtain ⟨rfl, rfl⟩ := trodVars_none hV
  obtain ⟨a0, rfl, rfl, rfl, w0⟩ := open_int Try.underlying3 (hval 0 3 v0 rfl rfl) h0
  obtain ⟨a1, rfl, rfl, rfl, w1⟩ := open_int Try.underlying3 (hval 1 3 v1 rfl rfl) h1
  clear hA0 hval0
  refine (walk a0 a1 w0 w1 W).mono fun e W' ⟨he, hg⟩ => ?_
  subst he
  exact ⟨_, rfl, _, _, _, [], _, [], hW', (trodAll_cons_mk (shut_bool Try.underlying4 _) trodAll_mk0), (trodAll_cons_mk (shut_int Try.underlying3 w0) (trodAll_cons_mk (shut_int Try.underlying3 w1) trodAll_mk0)), rfl, hg.frame _, fun h => by cases h⟩

theorem over : Rows.targetFormsRow.holds Try.pinned (OpenSpec.ofChange Rows.targetFormsSpec) :=
  OpenClaim.holds_of_wide 5 Try.f5 rfl rfl rfl rfl rfl rfl rfl ⟨rfl, rfl, rfl, rfl, rfl⟩ rfl rfl rfl rfl rfl (by kernel_rfl) Try.func5 (by kernel_rfl)
    (of_decide_eq_true (by kernel_rfl)) (by unfold Func.isWrapper; first | (rw [if_pos (by decide +kernel)]; kernel_rfl) | (rw [if_neg (by decide +kernel)]; exact ⟨rfl, rfl⟩))
    (fun os started H enc _ => lifted os started H enc)

/-- The statement. -/
theorem proved : Rows.TargetFormsSaid :=
  over
#print axioms proved
end Go.Proofs.Ytbpfmpldbafepaa.targetForms

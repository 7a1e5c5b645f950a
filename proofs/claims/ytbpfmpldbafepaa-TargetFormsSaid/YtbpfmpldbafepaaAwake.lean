/- The contract of awake; a config that is laid. -/
import Derived.Test.YtbpfmpldbafepaaFns2
namespace Go.Proofs.Ytbpfmpldbafepaa
open Go.RowKit
open Plain

/-- 'c := f()': a config is stored into a block that was just laid. -/
theorem store_new {ops : Array Oper} {rest : List Oper} {a : Act} {Q : Exit → Act → World → Prop} {w0 : World} {c : Cfg} {dst : Option Tmp} {ty : TypeId} {pos : String} {after : Array Edge} {x y : Operand}
    (hx : a.eval x = .pointer (some ⟨w0.heap.size, 0, none⟩)) (hy : a.eval y = .agg (cells c))
    (h : ∀ w1, w1.heap[w0.heap.size]? = some (.cells (cells c) 23) → Only [] w0 w1 → wpList Try.prog ops Q rest (a.put dst undef) w1) :
    wpList Try.prog ops Q ({ dst := dst, op := .store 23 x y, type := ty, pos := pos, after := after, guard := none } :: rest) a (w0.alloc (.cells #[.int .i64 0, .int .i64 0, .int .i64 0, .int .i64 0, .int .i64 0, .int .i64 0, .int .i64 0, .int .i64 0, .int .i64 0, .int .i64 0, .int .i64 0, .int .i64 0, .bool false, .string ⟨#[]⟩, .string ⟨#[]⟩, .string ⟨#[]⟩, .int .i64 0, .int .i64 0] 23)) := by
  refine wpList_store_row rfl 23 x y rfl w0.heap.size (cells c) hx hy 23 _ (heap_alloc_new' w0 _) (sz23 c) rfl (one_cfg c) ?_
  refine h _ (setRow_heap _ _ _ _ 23 _ (heap_alloc_new' w0 _)) ⟨rfl, rfl, rfl, by simp, fun k hk _ => ?_⟩
  rw [setRow_other _ _ _ _ (by omega)]
  exact Below.heap_alloc _ _ _ hk

theorem c257 : cnt 257 plainC.rate plainC.least plainC.links = 2 := by decide
theorem c9999 : cnt 9999 plainC.rate plainC.least plainC.links = 3 := by decide

set_option maxRecDepth 100000 in
set_option maxHeartbeats 2000000 in
theorem awake_any (w : World) : Calls Try.prog 12 #[] w fun e w' => e = .returned (.bool true) ∧ Only [] w w' := by
  go_enter Try.func12, Try.ntmps12
  go_wp2_with fail
  refine (plain_any w).mono ?_
  rintro e wa ⟨rfl, O0⟩
  go_upto_region 2 with ((with_reducible apply store_new); (focus rfl); (focus rfl); intro w1 hg1 O1)
  have O2 := O0.trans O1
  generalize wa.heap.size = B at *
  clear O0 O1
  go_wp2_with ((with_reducible refine wpList_load_row rfl 23 (.tmp 1) rfl _ rfl 23 (cells plainC) (0, 0) _ hg1 Try.underlying23 rfl (sz23 plainC) ?_))
  refine (links_ok 257 plainC w1 plain_may (by omega) (by omega)).mono ?_
  rintro e w2 ⟨rfl, O3⟩
  rw [c257]
  have hg2 := O3.at hg1 (by simp)
  have O4 := O2.trans O3
  clear hg1 O2 O3
  go_wp2_with ((with_reducible refine wpList_load_row rfl 23 (.tmp 1) rfl _ rfl 23 (cells plainC) (0, 0) _ hg2 Try.underlying23 rfl (sz23 plainC) ?_))
  refine (links_ok 9999 plainC w2 plain_may (by omega) (by omega)).mono ?_
  rintro e w3 ⟨rfl, O5⟩
  rw [c9999]
  have hg3 := O5.at hg2 (by simp)
  have O6 := O4.trans O5
  clear hg2 O4 O5
  go_wp2_with fail
  refine (links_bad 1 zeroC w3 (.inl zero_may)).mono ?_
  rintro e w4 ⟨rfl, O7⟩
  have hg4 := O7.at hg3 (by simp)
  have O8 := O6.trans O7
  clear hg3 O6 O7
  go_wp2_with ((with_reducible refine wpList_load_row rfl 23 (.tmp 1) rfl _ rfl 23 (cells plainC) (0, 0) _ hg4 Try.underlying23 rfl (sz23 plainC) ?_))
  refine (may_any plainC w4).mono ?_
  rintro e w5 ⟨rfl, O9⟩
  rw [plain_may]
  have O10 := O8.trans O9
  clear hg4 O8 O9
  go_wp2_with fail
  refine (may_any zeroC w5).mono ?_
  rintro e w6 ⟨rfl, O11⟩
  rw [zero_may]
  have O12 := O10.trans O11
  go_wp2_with (go_at_call 9; refine (num_any _ _).mono ?_; rintro e w' ⟨rfl, rfl⟩)
  go_ret
  exact ⟨rfl, O12⟩
end Go.Proofs.Ytbpfmpldbafepaa

/- Contracts of chapter 20's small functions: New, Len, Waits, Drain, Drop, Add, Submit. -/
import Derived.Test.YtjcndeanojeffaaMem
namespace Go.Proofs.Ytjcndeanojeffaa
open Go.RowKit
open Plain

theorem may17 (n : Int) (w : World) : Calls Try.prog 17 #[.int .i64 n] w fun e w' => e = .returned (.bool (mayB n)) ∧ w = w' := by
  by_cases h1 : 1 ≤ n
  · by_cases h2 : n ≤ 1500
    · have h : mayB n = true := by simp [mayB]; omega
      rw [h]
      have d1 : decide (1 ≤ n) = true := by simp; omega
      have d2 : decide (n ≤ 1500) = true := by simp; omega
      clear h
      go_enter Try.func17, Try.ntmps17
      go_wp2
      go_ret
      exact ⟨rfl, rfl⟩
    · have h : mayB n = false := by simp [mayB]; omega
      rw [h]
      have d1 : decide (1 ≤ n) = true := by simp; omega
      have d2 : decide (n ≤ 1500) = false := by simp; omega
      clear h
      go_enter Try.func17, Try.ntmps17
      go_wp2
      go_ret
      exact ⟨rfl, rfl⟩
  · have h : mayB n = false := by simp [mayB]; omega
    rw [h]
    have d1 : decide (1 ≤ n) = false := by simp; omega
    clear h
    go_enter Try.func17, Try.ntmps17
    go_wp2
    go_ret
    exact ⟨rfl, rfl⟩

set_option maxHeartbeats 800000 in
theorem new_good (size : Int) (short : Bool) (w : World) (h0 : 1 ≤ size) (h1 : size ≤ 1500) :
    Calls Try.prog 8 #[.int .i64 size, .bool short] w fun e w' => ∃ m, e = .returned (.tuple #[.pointer (some ⟨m.p, 0, none⟩), .int .i64 0]) ∧ PQ w' m (Q.new size short) ∧ Only [] w w' ∧ ∀ k ∈ m.foot, w.heap.size ≤ k := by
  have hm : mayB size = true := by simp [mayB]; omega
  have hmm := @run_makeMap Try.prog
  have hfin : ∀ w : World, ∃ m : Mem, (Ending.returned (.tuple #[.pointer (some ⟨w.heap.size + 1 + 1, 0, none⟩), .int .i64 0])) = .returned (.tuple #[.pointer (some ⟨m.p, 0, none⟩), .int .i64 0]) ∧ PQ (((w.alloc (.map #[] 0)).alloc (.map #[] 0)).alloc (.cells #[.int .i64 size, .bool short, .int .i64 0, .slice none 0 0, .int .i64 0, .map (some w.heap.size), .map (some (w.heap.size + 1))] 48)) m (Q.new size short) ∧ Only [] w (((w.alloc (.map #[] 0)).alloc (.map #[] 0)).alloc (.cells #[.int .i64 size, .bool short, .int .i64 0, .slice none 0 0, .int .i64 0, .map (some w.heap.size), .map (some (w.heap.size + 1))] 48)) ∧ ∀ k ∈ m.foot, w.heap.size ≤ k := by
    intro w
    refine ⟨⟨w.heap.size + 1 + 1, w.heap.size, w.heap.size + 1, none, 0, []⟩, rfl, ⟨?_, Sl.nil _ _ _, ?_, ?_, by simp, rfl, ?_⟩, (((Only.refl _ _).alloc _).alloc _).alloc _, ?_⟩
    · have := heap_alloc_new' ((w.alloc (.map #[] 0)).alloc (.map #[] 0)) (.cells #[.int .i64 size, .bool short, .int .i64 0, .slice none 0 0, .int .i64 0, .map (some w.heap.size), .map (some (w.heap.size + 1))] 48)
      simpa [Q.new] using this
    · exact ((HasMap.made w).alloc _).alloc _
    · have := (HasMap.made (P := Try.prog) (k := 3) (mk := ptrV) (w.alloc (.map #[] 0))).alloc (.cells #[.int .i64 size, .bool short, .int .i64 0, .slice none 0 0, .int .i64 0, .map (some w.heap.size), .map (some (w.heap.size + 1))] 48)
      simpa [Mem.ptrs] using this
    · simp [Mem.foot, blk]
      omega
    · intro k hk
      simp [Mem.foot, blk] at hk
      omega
  have HF := Lib.hid hfin
  clear hfin
  go_enter Try.func8, Try.ntmps8
  go_wp2_with (go_at_call 17; refine (may17 _ _).mono ?_; rintro e w' ⟨rfl, rfl⟩)
  go_ret2
  exact HF.out _

set_option maxHeartbeats 800000 in
theorem len_any (m : Mem) (S : Q) (w : World) (h : PQ w m S) (hok : S.Ok) : Calls Try.prog 14 #[.pointer (some ⟨m.p, 0, none⟩)] w fun e w' => e = .returned (.int .i64 S.len) ∧ Only [] w w' ∧ PQ w' m S := by
  have c3 := h.c3
  have c5 := h.c5
  have hl := h.drew.opnLen 3
  have h64 := hok.len64
  have HD := Lib.hid (show (S.packs.length : Int) + (S.opn.length : Int) = (S.len : Int) by unfold Q.len; omega)
  have HF := Lib.hid (And.intro (Only.drew (Only.refl [] w)) h.drew)
  clear h
  go_enter Try.func14, Try.ntmps14
  go_wp2_with fail
  refine wp_region_reads mixed (by kernel_rfl) ?_
  repeat (refine wpStill_op rfl rfl (fun K hK => ?_); go_step; refine hK _ ?_; clear hK K)
  refine wpStill_nil ?_
  go_wp2_with fail
  go_ret
  exact ⟨by rw [← HD.out]; rfl, HF.out⟩

set_option maxHeartbeats 800000 in
theorem waits_any (m : Mem) (S : Q) (k : Int) (w : World) (h : PQ w m S) (k0 : -9223372036854775808 ≤ k) (k1 : k ≤ 9223372036854775807) :
    Calls Try.prog 12 #[.pointer (some ⟨m.p, 0, none⟩), .int .i64 k] w fun e w' => e = .returned (.int .i64 (S.waits k)) ∧ w = w' := by
  have c6 := h.c6
  have hw : S.waits k = match m.at_ k with | none => 0 | some x => x.L.waits.length := by
    unfold Q.waits
    rw [h.lane]
    cases m.at_ k <;> rfl
  rw [hw]
  cases hx : m.at_ k with
  | none =>
    have l1 := h.laneNone k k0 k1 hx
    clear h hw hx
    go_enter Try.func12, Try.ntmps12
    go_wp2
    go_ret
    exact ⟨rfl, rfl⟩
  | some x =>
    have l1 := h.laneSome k k0 k1 hx
    have hat := h.at_ x (Mem.at_in hx).1
    have g0 := hat.c0
    clear h hw hx hat
    go_enter Try.func12, Try.ntmps12
    go_wp2
    go_ret
    exact ⟨rfl, rfl⟩
end Go.Proofs.Ytjcndeanojeffaa

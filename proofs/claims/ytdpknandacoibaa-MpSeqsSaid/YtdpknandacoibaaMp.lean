/- The contract of the reference's Mp. -/
import Derived.Test.YtdpknandacoibaaPut
namespace Go.Proofs.Ytdpknandacoibaa
open Go.RowKit
open Plain

def Held (B : Nat) (q : Int) (d : ByteArray) (w1 w' : World) : Prop := w'.cell? ⟨B, 2, none⟩ = some (.int .i64 q) ∧ w'.cell? ⟨B, 3, none⟩ = some (.string d) ∧ Only [] w1 w'
theorem Held.mk' {B : Nat} {q : Int} {d : ByteArray} {w1 w' : World} (hB : B < w1.heap.size) (c2 : w1.cell? ⟨B, 2, none⟩ = some (.int .i64 q)) (c3 : w1.cell? ⟨B, 3, none⟩ = some (.string d)) (ho : Only [] w1 w') : Held B q d w1 w' :=
  ⟨(World.cell?_of_block (ho.block B hB (by simp))).trans c2, (World.cell?_of_block (ho.block B hB (by simp))).trans c3, ho⟩

set_option maxRecDepth 100000 in
set_option maxHeartbeats 2000000 in
theorem mp_short (b e : Bool) (q : Int) (d : ByteArray) (w : World) (h1 : 0 ≤ q) (h2 : q < 4096) (h3 : d.size ≤ 2048) :
    Calls Try.prog 8 #[.agg #[.bool b, .bool e, .int .i64 q, .string d], .bool true] w fun x w' => x = .returned (.tuple #[.string (bytesOf b e q d true), .int .i64 0]) ∧ Only [] w w' := by
  have d1 : decide (q < 0) = false := by simp; omega
  have d2 : decide (4096 ≤ q) = false := by simp; omega
  have d3 : decide (2048 < (d.size : Int)) = false := by simp; omega
  have ds : d.size ≤ 9223372036854775000 := by omega
  have A0 : bits .or .i64 0 q = 0 + q := or_add 14 0 q (by omega) rfl (by omega) (by simp; omega) (by omega) (by omega)
  have A1 : bits .or .i64 16384 q = 16384 + q := or_add 14 16384 q (by omega) rfl (by omega) (by simp; omega) (by omega) (by omega)
  have A2 : bits .or .i64 32768 q = 32768 + q := or_add 14 32768 q (by omega) rfl (by omega) (by simp; omega) (by omega) (by omega)
  have A3 : bits .or .i64 49152 q = 49152 + q := or_add 14 49152 q (by omega) rfl (by omega) (by simp; omega) (by omega) (by omega)
  have SZ : ∀ l : List Int, (strOfNums l).size = l.length := strOfNums_size
  cases b <;> cases e
  · go_enter Try.func8, Try.ntmps8
    go_wp2_with fail
    refine wp_region_reads mixed (by kernel_rfl) ?_
    repeat (refine wpStill_op rfl rfl (fun K hK => ?_); go_step; refine hK _ ?_; clear hK K)
    still_call (still14 _ _ rfl _)
    rw [show ring true = 4096 from rfl]
    repeat (refine wpStill_op rfl rfl (fun K hK => ?_); go_step; refine hK _ ?_; clear hK K)
    refine wpStill_nil ?_
    go_upto_region 9 with fail
    have cq : (w.alloc (.cells #[.bool false, .bool false, .int .i64 q, .string d] 23)).drew.cell? ⟨w.heap.size, 2, none⟩ = some (.int .i64 q) := cell_of (heap_alloc_new' w (.cells #[.bool false, .bool false, .int .i64 q, .string d] 23)) 2
    have cd : (w.alloc (.cells #[.bool false, .bool false, .int .i64 q, .string d] 23)).drew.cell? ⟨w.heap.size, 3, none⟩ = some (.string d) := cell_of (heap_alloc_new' w (.cells #[.bool false, .bool false, .int .i64 q, .string d] 23)) 3
    have O1 : Only [] w (w.alloc (.cells #[.bool false, .bool false, .int .i64 q, .string d] 23)).drew := ((Only.refl [] w).alloc _).drew
    have lt1 : w.heap.size < (w.alloc (.cells #[.bool false, .bool false, .int .i64 q, .string d] 23)).drew.heap.size := lt_of_block (heap_alloc_new' w (.cells #[.bool false, .bool false, .int .i64 q, .string d] 23))
    generalize (w.alloc (.cells #[.bool false, .bool false, .int .i64 q, .string d] 23)).drew = w1 at *
    generalize w.heap.size = B at *
    refine wp_region_mix (Held B q d w1) [(0, true), (1, true), (2, true), (3, true), (4, true), (6, true), (7, true), (5, false), (8, false), (9, false), (10, false)] mixed (by kernel_rfl) (fun d v c a w h => by cases d <;> exact h) (Held.mk' lt1 cq cd (Only.drew (Only.refl _ _))) ?_
    simp only [List.filterMap_cons, List.filterMap_nil, List.getElem?_cons_succ, List.getElem?_cons_zero, Option.map_some]
    repeat (first | refine mix_move rfl ?_ | (refine mix_free rfl (v := ?_) (fun w' h' => ?_) ?_; rotate_left; (focus (obtain ⟨c2, c3, h5⟩ := h'; go_simp <;> with_reducible rfl))))
    refine mix_op rfl (fun K hK => ?_)
    go_step
    refine (two_any _ _ (by omega) (by omega)).mono ?_
    rintro x w2 ⟨rfl, O2⟩
    have hS := Held.mk' lt1 cq cd ((Only.drew (Only.refl [] w1)).trans O2)
    refine hK _ _ hS ?_
    clear hK K
    repeat (refine mix_op rfl (fun K hK => ?_); go_step; refine hK _ _ hS ?_; clear hK K)
    refine mix_nil ?_
    go_wp2
    go_ret2
    exact ⟨ret_str (by unfold bytesOf head hd; congr 2 <;> first | done | (simp; done) | (simp; omega) | omega), O1.trans hS.2.2⟩
  · go_enter Try.func8, Try.ntmps8
    go_wp2_with fail
    refine wp_region_reads mixed (by kernel_rfl) ?_
    repeat (refine wpStill_op rfl rfl (fun K hK => ?_); go_step; refine hK _ ?_; clear hK K)
    still_call (still14 _ _ rfl _)
    rw [show ring true = 4096 from rfl]
    repeat (refine wpStill_op rfl rfl (fun K hK => ?_); go_step; refine hK _ ?_; clear hK K)
    refine wpStill_nil ?_
    go_upto_region 9 with fail
    have cq : (w.alloc (.cells #[.bool false, .bool true, .int .i64 q, .string d] 23)).drew.cell? ⟨w.heap.size, 2, none⟩ = some (.int .i64 q) := cell_of (heap_alloc_new' w (.cells #[.bool false, .bool true, .int .i64 q, .string d] 23)) 2
    have cd : (w.alloc (.cells #[.bool false, .bool true, .int .i64 q, .string d] 23)).drew.cell? ⟨w.heap.size, 3, none⟩ = some (.string d) := cell_of (heap_alloc_new' w (.cells #[.bool false, .bool true, .int .i64 q, .string d] 23)) 3
    have O1 : Only [] w (w.alloc (.cells #[.bool false, .bool true, .int .i64 q, .string d] 23)).drew := ((Only.refl [] w).alloc _).drew
    have lt1 : w.heap.size < (w.alloc (.cells #[.bool false, .bool true, .int .i64 q, .string d] 23)).drew.heap.size := lt_of_block (heap_alloc_new' w (.cells #[.bool false, .bool true, .int .i64 q, .string d] 23))
    generalize (w.alloc (.cells #[.bool false, .bool true, .int .i64 q, .string d] 23)).drew = w1 at *
    generalize w.heap.size = B at *
    refine wp_region_mix (Held B q d w1) [(0, true), (1, true), (2, true), (3, true), (4, true), (6, true), (7, true), (5, false), (8, false), (9, false), (10, false)] mixed (by kernel_rfl) (fun d v c a w h => by cases d <;> exact h) (Held.mk' lt1 cq cd (Only.drew (Only.refl _ _))) ?_
    simp only [List.filterMap_cons, List.filterMap_nil, List.getElem?_cons_succ, List.getElem?_cons_zero, Option.map_some]
    repeat (first | refine mix_move rfl ?_ | (refine mix_free rfl (v := ?_) (fun w' h' => ?_) ?_; rotate_left; (focus (obtain ⟨c2, c3, h5⟩ := h'; go_simp <;> with_reducible rfl))))
    refine mix_op rfl (fun K hK => ?_)
    go_step
    refine (two_any _ _ (by omega) (by omega)).mono ?_
    rintro x w2 ⟨rfl, O2⟩
    have hS := Held.mk' lt1 cq cd ((Only.drew (Only.refl [] w1)).trans O2)
    refine hK _ _ hS ?_
    clear hK K
    repeat (refine mix_op rfl (fun K hK => ?_); go_step; refine hK _ _ hS ?_; clear hK K)
    refine mix_nil ?_
    go_wp2
    go_ret2
    exact ⟨ret_str (by unfold bytesOf head hd; congr 2 <;> first | done | (simp; done) | (simp; omega) | omega), O1.trans hS.2.2⟩
  · go_enter Try.func8, Try.ntmps8
    go_wp2_with fail
    refine wp_region_reads mixed (by kernel_rfl) ?_
    repeat (refine wpStill_op rfl rfl (fun K hK => ?_); go_step; refine hK _ ?_; clear hK K)
    still_call (still14 _ _ rfl _)
    rw [show ring true = 4096 from rfl]
    repeat (refine wpStill_op rfl rfl (fun K hK => ?_); go_step; refine hK _ ?_; clear hK K)
    refine wpStill_nil ?_
    go_upto_region 9 with fail
    have cq : (w.alloc (.cells #[.bool true, .bool false, .int .i64 q, .string d] 23)).drew.cell? ⟨w.heap.size, 2, none⟩ = some (.int .i64 q) := cell_of (heap_alloc_new' w (.cells #[.bool true, .bool false, .int .i64 q, .string d] 23)) 2
    have cd : (w.alloc (.cells #[.bool true, .bool false, .int .i64 q, .string d] 23)).drew.cell? ⟨w.heap.size, 3, none⟩ = some (.string d) := cell_of (heap_alloc_new' w (.cells #[.bool true, .bool false, .int .i64 q, .string d] 23)) 3
    have O1 : Only [] w (w.alloc (.cells #[.bool true, .bool false, .int .i64 q, .string d] 23)).drew := ((Only.refl [] w).alloc _).drew
    have lt1 : w.heap.size < (w.alloc (.cells #[.bool true, .bool false, .int .i64 q, .string d] 23)).drew.heap.size := lt_of_block (heap_alloc_new' w (.cells #[.bool true, .bool false, .int .i64 q, .string d] 23))
    generalize (w.alloc (.cells #[.bool true, .bool false, .int .i64 q, .string d] 23)).drew = w1 at *
    generalize w.heap.size = B at *
    refine wp_region_mix (Held B q d w1) [(0, true), (1, true), (2, true), (3, true), (4, true), (6, true), (7, true), (5, false), (8, false), (9, false), (10, false)] mixed (by kernel_rfl) (fun d v c a w h => by cases d <;> exact h) (Held.mk' lt1 cq cd (Only.drew (Only.refl _ _))) ?_
    simp only [List.filterMap_cons, List.filterMap_nil, List.getElem?_cons_succ, List.getElem?_cons_zero, Option.map_some]
    repeat (first | refine mix_move rfl ?_ | (refine mix_free rfl (v := ?_) (fun w' h' => ?_) ?_; rotate_left; (focus (obtain ⟨c2, c3, h5⟩ := h'; go_simp <;> with_reducible rfl))))
    refine mix_op rfl (fun K hK => ?_)
    go_step
    refine (two_any _ _ (by omega) (by omega)).mono ?_
    rintro x w2 ⟨rfl, O2⟩
    have hS := Held.mk' lt1 cq cd ((Only.drew (Only.refl [] w1)).trans O2)
    refine hK _ _ hS ?_
    clear hK K
    repeat (refine mix_op rfl (fun K hK => ?_); go_step; refine hK _ _ hS ?_; clear hK K)
    refine mix_nil ?_
    go_wp2
    go_ret2
    exact ⟨ret_str (by unfold bytesOf head hd; congr 2 <;> first | done | (simp; done) | (simp; omega) | omega), O1.trans hS.2.2⟩
  · go_enter Try.func8, Try.ntmps8
    go_wp2_with fail
    refine wp_region_reads mixed (by kernel_rfl) ?_
    repeat (refine wpStill_op rfl rfl (fun K hK => ?_); go_step; refine hK _ ?_; clear hK K)
    still_call (still14 _ _ rfl _)
    rw [show ring true = 4096 from rfl]
    repeat (refine wpStill_op rfl rfl (fun K hK => ?_); go_step; refine hK _ ?_; clear hK K)
    refine wpStill_nil ?_
    go_upto_region 9 with fail
    have cq : (w.alloc (.cells #[.bool true, .bool true, .int .i64 q, .string d] 23)).drew.cell? ⟨w.heap.size, 2, none⟩ = some (.int .i64 q) := cell_of (heap_alloc_new' w (.cells #[.bool true, .bool true, .int .i64 q, .string d] 23)) 2
    have cd : (w.alloc (.cells #[.bool true, .bool true, .int .i64 q, .string d] 23)).drew.cell? ⟨w.heap.size, 3, none⟩ = some (.string d) := cell_of (heap_alloc_new' w (.cells #[.bool true, .bool true, .int .i64 q, .string d] 23)) 3
    have O1 : Only [] w (w.alloc (.cells #[.bool true, .bool true, .int .i64 q, .string d] 23)).drew := ((Only.refl [] w).alloc _).drew
    have lt1 : w.heap.size < (w.alloc (.cells #[.bool true, .bool true, .int .i64 q, .string d] 23)).drew.heap.size := lt_of_block (heap_alloc_new' w (.cells #[.bool true, .bool true, .int .i64 q, .string d] 23))
    generalize (w.alloc (.cells #[.bool true, .bool true, .int .i64 q, .string d] 23)).drew = w1 at *
    generalize w.heap.size = B at *
    refine wp_region_mix (Held B q d w1) [(0, true), (1, true), (2, true), (3, true), (4, true), (6, true), (7, true), (5, false), (8, false), (9, false), (10, false)] mixed (by kernel_rfl) (fun d v c a w h => by cases d <;> exact h) (Held.mk' lt1 cq cd (Only.drew (Only.refl _ _))) ?_
    simp only [List.filterMap_cons, List.filterMap_nil, List.getElem?_cons_succ, List.getElem?_cons_zero, Option.map_some]
    repeat (first | refine mix_move rfl ?_ | (refine mix_free rfl (v := ?_) (fun w' h' => ?_) ?_; rotate_left; (focus (obtain ⟨c2, c3, h5⟩ := h'; go_simp <;> with_reducible rfl))))
    refine mix_op rfl (fun K hK => ?_)
    go_step
    refine (two_any _ _ (by omega) (by omega)).mono ?_
    rintro x w2 ⟨rfl, O2⟩
    have hS := Held.mk' lt1 cq cd ((Only.drew (Only.refl [] w1)).trans O2)
    refine hK _ _ hS ?_
    clear hK K
    repeat (refine mix_op rfl (fun K hK => ?_); go_step; refine hK _ _ hS ?_; clear hK K)
    refine mix_nil ?_
    go_wp2
    go_ret2
    exact ⟨ret_str (by unfold bytesOf head hd; congr 2 <;> first | done | (simp; done) | (simp; omega) | omega), O1.trans hS.2.2⟩
end Go.Proofs.Ytdpknandacoibaa

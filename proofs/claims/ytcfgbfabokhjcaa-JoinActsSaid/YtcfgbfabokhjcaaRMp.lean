/- The contract of the reference's Mp, as chapter 8 has it. -/
import Derived.Test.YtcfgbfabokhjcaaCut
import Derived.Laws.BytesArg
namespace Go.Proofs.Ytcfgbfabokhjcaa.Rmp
open Go.RowKit
open Plain

theorem rstill (b : Bool) (R : Int) (h : ring b = R) (w : World) : Calls Try.prog 37 #[.bool b] w fun e w' => e = .returned (.int .i64 R) ∧ w' = w := by rw [← h]; exact Cutp.ring_still b w
set_option maxRecDepth 100000 in
set_option maxHeartbeats 2000000 in
theorem mp_bad (b e : Bool) (q : Int) (d : ByteArray) (short : Bool) (w : World) (h : q < 0 ∨ ring short ≤ q ∨ 2048 < d.size) :
    Calls Try.prog 35 #[.agg #[.bool b, .bool e, .int .i64 q, .string d], .bool short] w fun x w' => x = .returned (.tuple #[.string ⟨#[]⟩, .int .i64 801]) ∧ Only [] w w' := by
  have HO := Lib.hid (fun X => ((Only.refl [] w).alloc X).drew)
  generalize hR : ring short = R at h
  have HR := Lib.hid hR
  clear hR
  by_cases h1 : q < 0
  · have d1 : decide (q < 0) = true := by simpa using h1
    clear h
    go_enter Try.func35, Try.ntmps35
    go_wp2_with fail
    refine wp_region_reads mixed (by kernel_rfl) ?_
    ((with_reducible refine wpStill_op ?_ ?_ ?_); (focus kernel_rfl); (focus kernel_rfl); intro K hK; go_step; refine hK _ ?_; clear hK K)
    ((with_reducible refine wpStill_op ?_ ?_ ?_); (focus kernel_rfl); (focus kernel_rfl); intro K hK; go_step; refine hK _ ?_; clear hK K)
    ((with_reducible refine wpStill_op ?_ ?_ ?_); (focus kernel_rfl); (focus kernel_rfl); intro K hK; go_step; refine hK _ ?_; clear hK K)
    ((with_reducible refine wpStill_op ?_ ?_ ?_); (focus kernel_rfl); (focus kernel_rfl); intro K hK; go_step; refine hK _ ?_; clear hK K)
    ((with_reducible refine wpStill_off ?_ ?_); (focus kernel_rfl))
    ((with_reducible refine wpStill_off ?_ ?_); (focus kernel_rfl))
    ((with_reducible refine wpStill_off ?_ ?_); (focus kernel_rfl))
    ((with_reducible refine wpStill_off ?_ ?_); (focus kernel_rfl))
    ((with_reducible refine wpStill_off ?_ ?_); (focus kernel_rfl))
    ((with_reducible refine wpStill_op ?_ ?_ ?_); (focus kernel_rfl); (focus kernel_rfl); intro K hK; go_step; refine hK _ ?_; clear hK K)
    ((with_reducible refine wpStill_op ?_ ?_ ?_); (focus kernel_rfl); (focus kernel_rfl); intro K hK; go_step; refine hK _ ?_; clear hK K)
    ((with_reducible refine wpStill_off ?_ ?_); (focus kernel_rfl))
    ((with_reducible refine wpStill_off ?_ ?_); (focus kernel_rfl))
    ((with_reducible refine wpStill_off ?_ ?_); (focus kernel_rfl))
    ((with_reducible refine wpStill_off ?_ ?_); (focus kernel_rfl))
    ((with_reducible refine wpStill_op ?_ ?_ ?_); (focus kernel_rfl); (focus kernel_rfl); intro K hK; go_step; refine hK _ ?_; clear hK K)
    refine wpStill_nil ?_
    go_wp2
    go_ret2
    exact ⟨rfl, HO.out _⟩
  have d1 : decide (q < 0) = false := by simpa using h1
  by_cases h2 : R ≤ q
  · have d2 : decide (R ≤ q) = true := by simpa using h2
    clear h
    go_enter Try.func35, Try.ntmps35
    go_wp2_with fail
    refine wp_region_reads mixed (by kernel_rfl) ?_
    repeat ((with_reducible refine wpStill_op ?_ ?_ ?_); (focus kernel_rfl); (focus kernel_rfl); intro K hK; go_step; refine hK _ ?_; clear hK K)
    still_call (rstill _ _ HR.out _)
    ((with_reducible refine wpStill_op ?_ ?_ ?_); (focus kernel_rfl); (focus kernel_rfl); intro K hK; go_step; refine hK _ ?_; clear hK K)
    ((with_reducible refine wpStill_op ?_ ?_ ?_); (focus kernel_rfl); (focus kernel_rfl); intro K hK; go_step; refine hK _ ?_; clear hK K)
    ((with_reducible refine wpStill_op ?_ ?_ ?_); (focus kernel_rfl); (focus kernel_rfl); intro K hK; go_step; refine hK _ ?_; clear hK K)
    ((with_reducible refine wpStill_off ?_ ?_); (focus kernel_rfl))
    ((with_reducible refine wpStill_off ?_ ?_); (focus kernel_rfl))
    ((with_reducible refine wpStill_off ?_ ?_); (focus kernel_rfl))
    ((with_reducible refine wpStill_off ?_ ?_); (focus kernel_rfl))
    ((with_reducible refine wpStill_op ?_ ?_ ?_); (focus kernel_rfl); (focus kernel_rfl); intro K hK; go_step; refine hK _ ?_; clear hK K)
    refine wpStill_nil ?_
    go_wp2
    go_ret2
    exact ⟨rfl, HO.out _⟩
  have d2 : decide (R ≤ q) = false := by simpa using h2
  have d3 : decide (2048 < (d.size : Int)) = true := by simp; omega
  clear h
  go_enter Try.func35, Try.ntmps35
  go_wp2_with fail
  refine wp_region_reads mixed (by kernel_rfl) ?_
  repeat ((with_reducible refine wpStill_op ?_ ?_ ?_); (focus kernel_rfl); (focus kernel_rfl); intro K hK; go_step; refine hK _ ?_; clear hK K)
  still_call (rstill _ _ HR.out _)
  repeat ((with_reducible refine wpStill_op ?_ ?_ ?_); (focus kernel_rfl); (focus kernel_rfl); intro K hK; go_step; refine hK _ ?_; clear hK K)
  refine wpStill_nil ?_
  go_wp2
  go_ret2
  exact ⟨rfl, HO.out _⟩

theorem two_any (x : Int) (w : World) (_h0 : 0 ≤ x) (_h1 : x ≤ 16777215) : Calls Try.prog 47 #[.int .i64 x] w fun e w' => e = .returned (.string (strOfNums [x / 256 % 256, x % 256])) ∧ Only [] w w' := by
  have A1 := and_255 x
  have A2 := and_255 (x / 256)
  have C := fun x y => conv2' w _ rfl x y
  go_enter Try.func47, Try.ntmps47
  go_wp2
  go_ret
  exact ⟨by simp, (Only.refl _ _).alloc _⟩
def HeldM (B : Nat) (q : Int) (d : ByteArray) (w1 w' : World) : Prop := w'.cell? ⟨B, 2, none⟩ = some (.int .i64 q) ∧ w'.cell? ⟨B, 3, none⟩ = some (.string d) ∧ Only [] w1 w'
theorem HeldM.mk' {B : Nat} {q : Int} {d : ByteArray} {w1 w' : World} (hB : B < w1.heap.size) (c2 : w1.cell? ⟨B, 2, none⟩ = some (.int .i64 q)) (c3 : w1.cell? ⟨B, 3, none⟩ = some (.string d)) (ho : Only [] w1 w') : HeldM B q d w1 w' :=
  ⟨(World.cell?_of_block (ho.block B hB (by simp))).trans c2, (World.cell?_of_block (ho.block B hB (by simp))).trans c3, ho⟩

set_option maxRecDepth 100000 in
set_option maxHeartbeats 2000000 in
theorem mp_short (b e : Bool) (q : Int) (d : ByteArray) (w : World) (h1 : 0 ≤ q) (h2 : q < 4096) (h3 : d.size ≤ 2048) :
    Calls Try.prog 35 #[.agg #[.bool b, .bool e, .int .i64 q, .string d], .bool true] w fun x w' => x = .returned (.tuple #[.string (bytesOf b e q d true), .int .i64 0]) ∧ Only [] w w' := by
  have d1 : decide (q < 0) = false := by simp; omega
  have d2 : decide (4096 ≤ q) = false := by simp; omega
  have d3 : decide (2048 < (d.size : Int)) = false := by simp; omega
  have ds : d.size ≤ 9223372036854775000 := by omega
  have A0 : bits .or .i64 0 q = 0 + q := or_add 14 0 q (by omega) rfl (by omega) (by simp; omega) (by omega) (by omega)
  have A1 : bits .or .i64 16384 q = 16384 + q := or_add 14 16384 q (by omega) rfl (by omega) (by simp; omega) (by omega) (by omega)
  have A2 : bits .or .i64 32768 q = 32768 + q := or_add 14 32768 q (by omega) rfl (by omega) (by simp; omega) (by omega) (by omega)
  have A3 : bits .or .i64 49152 q = 49152 + q := or_add 14 49152 q (by omega) rfl (by omega) (by simp; omega) (by omega) (by omega)
  have SZ : ∀ l : List Int, (strOfNums l).size = l.length := strOfNums_size
  cases b <;> cases e
  · go_enter Try.func35, Try.ntmps35
    go_wp2_with fail
    refine wp_region_reads mixed (by kernel_rfl) ?_
    repeat ((with_reducible refine wpStill_op ?_ ?_ ?_); (focus kernel_rfl); (focus kernel_rfl); intro K hK; go_step; refine hK _ ?_; clear hK K)
    still_call (rstill _ _ rfl _)
    rw [show ring true = 4096 from rfl]
    repeat ((with_reducible refine wpStill_op ?_ ?_ ?_); (focus kernel_rfl); (focus kernel_rfl); intro K hK; go_step; refine hK _ ?_; clear hK K)
    refine wpStill_nil ?_
    go_upto_region 9 with fail
    have cq : (w.alloc (.cells #[.bool false, .bool false, .int .i64 q, .string d] 33)).drew.cell? ⟨w.heap.size, 2, none⟩ = some (.int .i64 q) := cell_of (heap_alloc_new' w (.cells #[.bool false, .bool false, .int .i64 q, .string d] 33)) 2
    have cd : (w.alloc (.cells #[.bool false, .bool false, .int .i64 q, .string d] 33)).drew.cell? ⟨w.heap.size, 3, none⟩ = some (.string d) := cell_of (heap_alloc_new' w (.cells #[.bool false, .bool false, .int .i64 q, .string d] 33)) 3
    have O1 : Only [] w (w.alloc (.cells #[.bool false, .bool false, .int .i64 q, .string d] 33)).drew := ((Only.refl [] w).alloc _).drew
    have lt1 : w.heap.size < (w.alloc (.cells #[.bool false, .bool false, .int .i64 q, .string d] 33)).drew.heap.size := lt_of_block (heap_alloc_new' w (.cells #[.bool false, .bool false, .int .i64 q, .string d] 33))
    generalize (w.alloc (.cells #[.bool false, .bool false, .int .i64 q, .string d] 33)).drew = w1 at *
    generalize w.heap.size = B at *
    refine wp_region_mix (HeldM B q d w1) [(0, true), (1, true), (2, true), (3, true), (4, true), (6, true), (7, true), (5, false), (8, false), (9, false), (10, false)] mixed (by kernel_rfl) (fun d v c a w h => by cases d <;> exact h) (HeldM.mk' lt1 cq cd (Only.drew (Only.refl _ _))) ?_
    simp only [List.filterMap_cons, List.filterMap_nil, List.getElem?_cons_succ, List.getElem?_cons_zero, Option.map_some]
    ((with_reducible refine mix_move ?_ ?_); (focus rfl))
    iterate 6 ((with_reducible refine mix_free ?_ (v := ?_) (fun w' h' => ?_) ?_); (focus rfl); rotate_left; (focus (obtain ⟨c2, c3, h5⟩ := h'; go_simp <;> with_reducible rfl)))
    ((with_reducible refine mix_op ?_ ?_); (focus rfl); intro K hK)
    go_step
    refine (two_any _ _ (by omega) (by omega)).mono ?_
    rintro x w2 ⟨rfl, O2⟩
    have hS := HeldM.mk' lt1 cq cd ((Only.drew (Only.refl [] w1)).trans O2)
    refine hK _ _ hS ?_
    clear hK K
    repeat ((with_reducible refine mix_op ?_ ?_); (focus rfl); intro K hK; go_step; refine hK _ _ hS ?_; clear hK K)
    refine mix_nil ?_
    go_wp2
    go_ret2
    exact ⟨ret_str (by unfold bytesOf head hd; congr 2 <;> first | done | (simp; done) | (simp; omega) | omega), O1.trans hS.2.2⟩
  · go_enter Try.func35, Try.ntmps35
    go_wp2_with fail
    refine wp_region_reads mixed (by kernel_rfl) ?_
    repeat ((with_reducible refine wpStill_op ?_ ?_ ?_); (focus kernel_rfl); (focus kernel_rfl); intro K hK; go_step; refine hK _ ?_; clear hK K)
    still_call (rstill _ _ rfl _)
    rw [show ring true = 4096 from rfl]
    repeat ((with_reducible refine wpStill_op ?_ ?_ ?_); (focus kernel_rfl); (focus kernel_rfl); intro K hK; go_step; refine hK _ ?_; clear hK K)
    refine wpStill_nil ?_
    go_upto_region 9 with fail
    have cq : (w.alloc (.cells #[.bool false, .bool true, .int .i64 q, .string d] 33)).drew.cell? ⟨w.heap.size, 2, none⟩ = some (.int .i64 q) := cell_of (heap_alloc_new' w (.cells #[.bool false, .bool true, .int .i64 q, .string d] 33)) 2
    have cd : (w.alloc (.cells #[.bool false, .bool true, .int .i64 q, .string d] 33)).drew.cell? ⟨w.heap.size, 3, none⟩ = some (.string d) := cell_of (heap_alloc_new' w (.cells #[.bool false, .bool true, .int .i64 q, .string d] 33)) 3
    have O1 : Only [] w (w.alloc (.cells #[.bool false, .bool true, .int .i64 q, .string d] 33)).drew := ((Only.refl [] w).alloc _).drew
    have lt1 : w.heap.size < (w.alloc (.cells #[.bool false, .bool true, .int .i64 q, .string d] 33)).drew.heap.size := lt_of_block (heap_alloc_new' w (.cells #[.bool false, .bool true, .int .i64 q, .string d] 33))
    generalize (w.alloc (.cells #[.bool false, .bool true, .int .i64 q, .string d] 33)).drew = w1 at *
    generalize w.heap.size = B at *
    refine wp_region_mix (HeldM B q d w1) [(0, true), (1, true), (2, true), (3, true), (4, true), (6, true), (7, true), (5, false), (8, false), (9, false), (10, false)] mixed (by kernel_rfl) (fun d v c a w h => by cases d <;> exact h) (HeldM.mk' lt1 cq cd (Only.drew (Only.refl _ _))) ?_
    simp only [List.filterMap_cons, List.filterMap_nil, List.getElem?_cons_succ, List.getElem?_cons_zero, Option.map_some]
    ((with_reducible refine mix_move ?_ ?_); (focus rfl))
    iterate 6 ((with_reducible refine mix_free ?_ (v := ?_) (fun w' h' => ?_) ?_); (focus rfl); rotate_left; (focus (obtain ⟨c2, c3, h5⟩ := h'; go_simp <;> with_reducible rfl)))
    ((with_reducible refine mix_op ?_ ?_); (focus rfl); intro K hK)
    go_step
    refine (two_any _ _ (by omega) (by omega)).mono ?_
    rintro x w2 ⟨rfl, O2⟩
    have hS := HeldM.mk' lt1 cq cd ((Only.drew (Only.refl [] w1)).trans O2)
    refine hK _ _ hS ?_
    clear hK K
    repeat ((with_reducible refine mix_op ?_ ?_); (focus rfl); intro K hK; go_step; refine hK _ _ hS ?_; clear hK K)
    refine mix_nil ?_
    go_wp2
    go_ret2
    exact ⟨ret_str (by unfold bytesOf head hd; congr 2 <;> first | done | (simp; done) | (simp; omega) | omega), O1.trans hS.2.2⟩
  · go_enter Try.func35, Try.ntmps35
    go_wp2_with fail
    refine wp_region_reads mixed (by kernel_rfl) ?_
    repeat ((with_reducible refine wpStill_op ?_ ?_ ?_); (focus kernel_rfl); (focus kernel_rfl); intro K hK; go_step; refine hK _ ?_; clear hK K)
    still_call (rstill _ _ rfl _)
    rw [show ring true = 4096 from rfl]
    repeat ((with_reducible refine wpStill_op ?_ ?_ ?_); (focus kernel_rfl); (focus kernel_rfl); intro K hK; go_step; refine hK _ ?_; clear hK K)
    refine wpStill_nil ?_
    go_upto_region 9 with fail
    have cq : (w.alloc (.cells #[.bool true, .bool false, .int .i64 q, .string d] 33)).drew.cell? ⟨w.heap.size, 2, none⟩ = some (.int .i64 q) := cell_of (heap_alloc_new' w (.cells #[.bool true, .bool false, .int .i64 q, .string d] 33)) 2
    have cd : (w.alloc (.cells #[.bool true, .bool false, .int .i64 q, .string d] 33)).drew.cell? ⟨w.heap.size, 3, none⟩ = some (.string d) := cell_of (heap_alloc_new' w (.cells #[.bool true, .bool false, .int .i64 q, .string d] 33)) 3
    have O1 : Only [] w (w.alloc (.cells #[.bool true, .bool false, .int .i64 q, .string d] 33)).drew := ((Only.refl [] w).alloc _).drew
    have lt1 : w.heap.size < (w.alloc (.cells #[.bool true, .bool false, .int .i64 q, .string d] 33)).drew.heap.size := lt_of_block (heap_alloc_new' w (.cells #[.bool true, .bool false, .int .i64 q, .string d] 33))
    generalize (w.alloc (.cells #[.bool true, .bool false, .int .i64 q, .string d] 33)).drew = w1 at *
    generalize w.heap.size = B at *
    refine wp_region_mix (HeldM B q d w1) [(0, true), (1, true), (2, true), (3, true), (4, true), (6, true), (7, true), (5, false), (8, false), (9, false), (10, false)] mixed (by kernel_rfl) (fun d v c a w h => by cases d <;> exact h) (HeldM.mk' lt1 cq cd (Only.drew (Only.refl _ _))) ?_
    simp only [List.filterMap_cons, List.filterMap_nil, List.getElem?_cons_succ, List.getElem?_cons_zero, Option.map_some]
    ((with_reducible refine mix_move ?_ ?_); (focus rfl))
    iterate 6 ((with_reducible refine mix_free ?_ (v := ?_) (fun w' h' => ?_) ?_); (focus rfl); rotate_left; (focus (obtain ⟨c2, c3, h5⟩ := h'; go_simp <;> with_reducible rfl)))
    ((with_reducible refine mix_op ?_ ?_); (focus rfl); intro K hK)
    go_step
    refine (two_any _ _ (by omega) (by omega)).mono ?_
    rintro x w2 ⟨rfl, O2⟩
    have hS := HeldM.mk' lt1 cq cd ((Only.drew (Only.refl [] w1)).trans O2)
    refine hK _ _ hS ?_
    clear hK K
    repeat ((with_reducible refine mix_op ?_ ?_); (focus rfl); intro K hK; go_step; refine hK _ _ hS ?_; clear hK K)
    refine mix_nil ?_
    go_wp2
    go_ret2
    exact ⟨ret_str (by unfold bytesOf head hd; congr 2 <;> first | done | (simp; done) | (simp; omega) | omega), O1.trans hS.2.2⟩
  · go_enter Try.func35, Try.ntmps35
    go_wp2_with fail
    refine wp_region_reads mixed (by kernel_rfl) ?_
    repeat ((with_reducible refine wpStill_op ?_ ?_ ?_); (focus kernel_rfl); (focus kernel_rfl); intro K hK; go_step; refine hK _ ?_; clear hK K)
    still_call (rstill _ _ rfl _)
    rw [show ring true = 4096 from rfl]
    repeat ((with_reducible refine wpStill_op ?_ ?_ ?_); (focus kernel_rfl); (focus kernel_rfl); intro K hK; go_step; refine hK _ ?_; clear hK K)
    refine wpStill_nil ?_
    go_upto_region 9 with fail
    have cq : (w.alloc (.cells #[.bool true, .bool true, .int .i64 q, .string d] 33)).drew.cell? ⟨w.heap.size, 2, none⟩ = some (.int .i64 q) := cell_of (heap_alloc_new' w (.cells #[.bool true, .bool true, .int .i64 q, .string d] 33)) 2
    have cd : (w.alloc (.cells #[.bool true, .bool true, .int .i64 q, .string d] 33)).drew.cell? ⟨w.heap.size, 3, none⟩ = some (.string d) := cell_of (heap_alloc_new' w (.cells #[.bool true, .bool true, .int .i64 q, .string d] 33)) 3
    have O1 : Only [] w (w.alloc (.cells #[.bool true, .bool true, .int .i64 q, .string d] 33)).drew := ((Only.refl [] w).alloc _).drew
    have lt1 : w.heap.size < (w.alloc (.cells #[.bool true, .bool true, .int .i64 q, .string d] 33)).drew.heap.size := lt_of_block (heap_alloc_new' w (.cells #[.bool true, .bool true, .int .i64 q, .string d] 33))
    generalize (w.alloc (.cells #[.bool true, .bool true, .int .i64 q, .string d] 33)).drew = w1 at *
    generalize w.heap.size = B at *
    refine wp_region_mix (HeldM B q d w1) [(0, true), (1, true), (2, true), (3, true), (4, true), (6, true), (7, true), (5, false), (8, false), (9, false), (10, false)] mixed (by kernel_rfl) (fun d v c a w h => by cases d <;> exact h) (HeldM.mk' lt1 cq cd (Only.drew (Only.refl _ _))) ?_
    simp only [List.filterMap_cons, List.filterMap_nil, List.getElem?_cons_succ, List.getElem?_cons_zero, Option.map_some]
    ((with_reducible refine mix_move ?_ ?_); (focus rfl))
    iterate 6 ((with_reducible refine mix_free ?_ (v := ?_) (fun w' h' => ?_) ?_); (focus rfl); rotate_left; (focus (obtain ⟨c2, c3, h5⟩ := h'; go_simp <;> with_reducible rfl)))
    ((with_reducible refine mix_op ?_ ?_); (focus rfl); intro K hK)
    go_step
    refine (two_any _ _ (by omega) (by omega)).mono ?_
    rintro x w2 ⟨rfl, O2⟩
    have hS := HeldM.mk' lt1 cq cd ((Only.drew (Only.refl [] w1)).trans O2)
    refine hK _ _ hS ?_
    clear hK K
    repeat ((with_reducible refine mix_op ?_ ?_); (focus rfl); intro K hK; go_step; refine hK _ _ hS ?_; clear hK K)
    refine mix_nil ?_
    go_wp2
    go_ret2
    exact ⟨ret_str (by unfold bytesOf head hd; congr 2 <;> first | done | (simp; done) | (simp; omega) | omega), O1.trans hS.2.2⟩
theorem conv2_at {w : World} {g : Nat} {x y : Int} (h : w.heap[g]? = some (.cells #[.int .u8 x, .int .u8 y] 5)) : (convert 86 9 (.slice (some ⟨g, 0, none⟩) 2 2)).run Try.prog w = .ok (.string (strOfNums [x, y])) w := by
  refine run_convert_bytes_arg _ 86 5 Try.underlying86 (by kernel_rfl) _ 0 _ _ [x, y] rfl (fun j hj => ?_) 9 Try.underlying9
  rw [cell_of h]
  have hj' : j < 2 := hj
  rcases (show j = 0 ∨ j = 1 by omega) with rfl | rfl <;> rfl
theorem str_app (x y z t : Int) : strOfNums [x, y] ++ strOfNums [z, t] = strOfNums [x, y, z, t] := rfl

set_option maxRecDepth 100000 in
set_option maxHeartbeats 4000000 in
theorem mp_long (b e : Bool) (q : Int) (d : ByteArray) (w : World) (h1 : 0 ≤ q) (h2 : q < 16777216) (h3 : d.size ≤ 2048) :
    Calls Try.prog 35 #[.agg #[.bool b, .bool e, .int .i64 q, .string d], .bool false] w fun x w' => x = .returned (.tuple #[.string (bytesOf b e q d false), .int .i64 0]) ∧ Only [] w w' := by
  have d1 : decide (q < 0) = false := by simp; omega
  have d2 : decide (16777216 ≤ q) = false := by simp; omega
  have d3 : decide (2048 < (d.size : Int)) = false := by simp; omega
  have ds : d.size ≤ 9223372036854775000 := by omega
  have SZ : ∀ l : List Int, (strOfNums l).size = l.length := strOfNums_size
  cases b <;> cases e
  · go_enter Try.func35, Try.ntmps35
    go_wp2_with fail
    refine wp_region_reads mixed (by kernel_rfl) ?_
    repeat ((with_reducible refine wpStill_op ?_ ?_ ?_); (focus kernel_rfl); (focus kernel_rfl); intro K hK; go_step; refine hK _ ?_; clear hK K)
    still_call (rstill _ _ rfl _)
    rw [show ring false = 16777216 from rfl]
    repeat ((with_reducible refine wpStill_op ?_ ?_ ?_); (focus kernel_rfl); (focus kernel_rfl); intro K hK; go_step; refine hK _ ?_; clear hK K)
    refine wpStill_nil ?_
    go_upto_region 10 with fail
    have cq : (w.alloc (.cells #[.bool false, .bool false, .int .i64 q, .string d] 33)).drew.cell? ⟨w.heap.size, 2, none⟩ = some (.int .i64 q) := cell_of (heap_alloc_new' w (.cells #[.bool false, .bool false, .int .i64 q, .string d] 33)) 2
    have cd : (w.alloc (.cells #[.bool false, .bool false, .int .i64 q, .string d] 33)).drew.cell? ⟨w.heap.size, 3, none⟩ = some (.string d) := cell_of (heap_alloc_new' w (.cells #[.bool false, .bool false, .int .i64 q, .string d] 33)) 3
    have O1 : Only [] w (w.alloc (.cells #[.bool false, .bool false, .int .i64 q, .string d] 33)).drew := ((Only.refl [] w).alloc _).drew
    have lt1 : w.heap.size < (w.alloc (.cells #[.bool false, .bool false, .int .i64 q, .string d] 33)).drew.heap.size := lt_of_block (heap_alloc_new' w (.cells #[.bool false, .bool false, .int .i64 q, .string d] 33))
    generalize (w.alloc (.cells #[.bool false, .bool false, .int .i64 q, .string d] 33)).drew = w1 at *
    generalize w.heap.size = B at *
    refine wp_region_part (HeldM B q d w1) [(0, true), (1, true), (2, true), (3, true), (4, true), (5, true), (8, true), (9, true), (12, true), (13, true)] 7 #[true, true, true, true, true, true, false, false, true, true, false, false, true, true, false, false, false] mixed (by kernel_rfl) (fun d v c a w h => by cases d <;> exact h) (HeldM.mk' lt1 cq cd (Only.drew (Only.refl _ _))) ?_
    simp only [List.filterMap_cons, List.filterMap_nil, List.getElem?_cons_succ, List.getElem?_cons_zero, Option.map_some]
    have OW : Only [] w1 w1.drew := Only.drew (Only.refl _ _)
    generalize w1.drew = w2 at *
    ((with_reducible refine mixR_move ?_ ?_); (focus rfl))
    iterate 9 ((with_reducible refine mixR_free ?_ (v := ?_) (fun w' h' => ?_) ?_); (focus rfl); rotate_left; (focus (obtain ⟨c2, c3, h5⟩ := h'; go_simp <;> with_reducible rfl)))
    refine mixR_nil ?_
    intro hS
    have C := fun x y => conv2' w2 _ rfl x y
    refine anyH_two 6 10 _ _ (by kernel_rfl) rfl rfl rfl rfl (fun K hK => ?_) (fun K hK => ?_)
    · go_step
      have OA : Only [] w1 (w2.alloc (.cells #[.int .u8 0, .int .u8 (q / 65536)] 5)) := OW.alloc _
      refine hK _ _ (HeldM.mk' lt1 cq cd OA) ?_
      clear hK K C
      have hb := heap_alloc_new' w2 (.cells #[.int .u8 0, .int .u8 (q / 65536)] 5)
      have C := conv2_at hb
      generalize World.alloc w2 _ = w3 at *
      generalize w2.heap.size = g at *
      have hS3 := HeldM.mk' lt1 cq cd OA
      refine anyH_two 7 10 _ _ (by kernel_rfl) rfl rfl rfl rfl (fun K hK => ?_) (fun K hK => ?_)
      · go_step
        refine hK _ _ hS3 ?_
        clear hK K
        refine anyH_mix [(10, false), (11, false), (14, false), (15, false), (16, false)] (by kernel_rfl) (by kernel_rfl) (fun d v c a w h => by cases d <;> exact h) hS3 ?_
        simp only [mixOps, List.filterMap_cons, List.filterMap_nil, List.getElem?_toArray, List.getElem?_cons_succ, List.getElem?_cons_zero, Option.map_some]
        ((with_reducible refine mix_op ?_ ?_); (focus rfl); intro K hK)
        go_step
        refine (two_any _ _ (by omega) (by omega)).mono ?_
        rintro x w4 ⟨rfl, O4⟩
        have hS9 := HeldM.mk' lt1 cq cd (OA.trans O4)
        refine hK _ _ hS9 ?_
        clear hK K
        repeat ((with_reducible refine mix_op ?_ ?_); (focus rfl); intro K hK; go_step; refine hK _ _ hS9 ?_; clear hK K)
        refine mix_nil ?_
        go_wp2
        go_ret2
        exact ⟨ret_str (by unfold bytesOf head hd; rw [str_app]; congr 2 <;> first | done | (simp; done) | (simp; omega) | omega), O1.trans hS9.2.2⟩
      · go_step
        refine (two_any _ _ (by omega) (by omega)).mono ?_
        rintro x w4 ⟨rfl, O4⟩
        have hS9 := HeldM.mk' lt1 cq cd (OA.trans O4)
        have C4 := conv2_at (O4.at hb (by simp))
        refine hK _ _ hS9 ?_
        clear hK K
        refine anyH_mix [(7, false), (11, false), (14, false), (15, false), (16, false)] (by kernel_rfl) (by kernel_rfl) (fun d v c a w h => by cases d <;> exact h) hS9 ?_
        simp only [mixOps, List.filterMap_cons, List.filterMap_nil, List.getElem?_toArray, List.getElem?_cons_succ, List.getElem?_cons_zero, Option.map_some]
        repeat ((with_reducible refine mix_op ?_ ?_); (focus rfl); intro K hK; go_step; refine hK _ _ hS9 ?_; clear hK K)
        refine mix_nil ?_
        go_wp2
        go_ret2
        exact ⟨ret_str (by unfold bytesOf head hd; rw [str_app]; congr 2 <;> first | done | (simp; done) | (simp; omega) | omega), O1.trans hS9.2.2⟩
    · go_step
      refine (two_any _ _ (by omega) (by omega)).mono ?_
      rintro x w4 ⟨rfl, O4⟩
      have OA := OW.trans O4
      have hS4 := HeldM.mk' lt1 cq cd OA
      refine hK _ _ hS4 ?_
      clear hK K C
      have C := fun x y => conv2' w4 _ rfl x y
      refine anyH_mix [(6, false), (7, false), (11, false), (14, false), (15, false), (16, false)] (by kernel_rfl) (by kernel_rfl) (fun d v c a w h => by cases d <;> exact h) hS4 ?_
      simp only [mixOps, List.filterMap_cons, List.filterMap_nil, List.getElem?_toArray, List.getElem?_cons_succ, List.getElem?_cons_zero, Option.map_some]
      ((with_reducible refine mix_op ?_ ?_); (focus rfl); intro K hK)
      go_step
      have hS9 := HeldM.mk' lt1 cq cd (OA.alloc (.cells #[.int .u8 0, .int .u8 (q / 65536)] 5))
      refine hK _ _ hS9 ?_
      clear hK K
      repeat ((with_reducible refine mix_op ?_ ?_); (focus rfl); intro K hK; go_step; refine hK _ _ hS9 ?_; clear hK K)
      refine mix_nil ?_
      go_wp2
      go_ret2
      exact ⟨ret_str (by unfold bytesOf head hd; rw [str_app]; congr 2 <;> first | done | (simp; done) | (simp; omega) | omega), O1.trans hS9.2.2⟩
  · go_enter Try.func35, Try.ntmps35
    go_wp2_with fail
    refine wp_region_reads mixed (by kernel_rfl) ?_
    repeat ((with_reducible refine wpStill_op ?_ ?_ ?_); (focus kernel_rfl); (focus kernel_rfl); intro K hK; go_step; refine hK _ ?_; clear hK K)
    still_call (rstill _ _ rfl _)
    rw [show ring false = 16777216 from rfl]
    repeat ((with_reducible refine wpStill_op ?_ ?_ ?_); (focus kernel_rfl); (focus kernel_rfl); intro K hK; go_step; refine hK _ ?_; clear hK K)
    refine wpStill_nil ?_
    go_upto_region 10 with fail
    have cq : (w.alloc (.cells #[.bool false, .bool true, .int .i64 q, .string d] 33)).drew.cell? ⟨w.heap.size, 2, none⟩ = some (.int .i64 q) := cell_of (heap_alloc_new' w (.cells #[.bool false, .bool true, .int .i64 q, .string d] 33)) 2
    have cd : (w.alloc (.cells #[.bool false, .bool true, .int .i64 q, .string d] 33)).drew.cell? ⟨w.heap.size, 3, none⟩ = some (.string d) := cell_of (heap_alloc_new' w (.cells #[.bool false, .bool true, .int .i64 q, .string d] 33)) 3
    have O1 : Only [] w (w.alloc (.cells #[.bool false, .bool true, .int .i64 q, .string d] 33)).drew := ((Only.refl [] w).alloc _).drew
    have lt1 : w.heap.size < (w.alloc (.cells #[.bool false, .bool true, .int .i64 q, .string d] 33)).drew.heap.size := lt_of_block (heap_alloc_new' w (.cells #[.bool false, .bool true, .int .i64 q, .string d] 33))
    generalize (w.alloc (.cells #[.bool false, .bool true, .int .i64 q, .string d] 33)).drew = w1 at *
    generalize w.heap.size = B at *
    refine wp_region_part (HeldM B q d w1) [(0, true), (1, true), (2, true), (3, true), (4, true), (5, true), (8, true), (9, true), (12, true), (13, true)] 7 #[true, true, true, true, true, true, false, false, true, true, false, false, true, true, false, false, false] mixed (by kernel_rfl) (fun d v c a w h => by cases d <;> exact h) (HeldM.mk' lt1 cq cd (Only.drew (Only.refl _ _))) ?_
    simp only [List.filterMap_cons, List.filterMap_nil, List.getElem?_cons_succ, List.getElem?_cons_zero, Option.map_some]
    have OW : Only [] w1 w1.drew := Only.drew (Only.refl _ _)
    generalize w1.drew = w2 at *
    ((with_reducible refine mixR_move ?_ ?_); (focus rfl))
    iterate 9 ((with_reducible refine mixR_free ?_ (v := ?_) (fun w' h' => ?_) ?_); (focus rfl); rotate_left; (focus (obtain ⟨c2, c3, h5⟩ := h'; go_simp <;> with_reducible rfl)))
    refine mixR_nil ?_
    intro hS
    have C := fun x y => conv2' w2 _ rfl x y
    refine anyH_two 6 10 _ _ (by kernel_rfl) rfl rfl rfl rfl (fun K hK => ?_) (fun K hK => ?_)
    · go_step
      have OA : Only [] w1 (w2.alloc (.cells #[.int .u8 64, .int .u8 (q / 65536)] 5)) := OW.alloc _
      refine hK _ _ (HeldM.mk' lt1 cq cd OA) ?_
      clear hK K C
      have hb := heap_alloc_new' w2 (.cells #[.int .u8 64, .int .u8 (q / 65536)] 5)
      have C := conv2_at hb
      generalize World.alloc w2 _ = w3 at *
      generalize w2.heap.size = g at *
      have hS3 := HeldM.mk' lt1 cq cd OA
      refine anyH_two 7 10 _ _ (by kernel_rfl) rfl rfl rfl rfl (fun K hK => ?_) (fun K hK => ?_)
      · go_step
        refine hK _ _ hS3 ?_
        clear hK K
        refine anyH_mix [(10, false), (11, false), (14, false), (15, false), (16, false)] (by kernel_rfl) (by kernel_rfl) (fun d v c a w h => by cases d <;> exact h) hS3 ?_
        simp only [mixOps, List.filterMap_cons, List.filterMap_nil, List.getElem?_toArray, List.getElem?_cons_succ, List.getElem?_cons_zero, Option.map_some]
        ((with_reducible refine mix_op ?_ ?_); (focus rfl); intro K hK)
        go_step
        refine (two_any _ _ (by omega) (by omega)).mono ?_
        rintro x w4 ⟨rfl, O4⟩
        have hS9 := HeldM.mk' lt1 cq cd (OA.trans O4)
        refine hK _ _ hS9 ?_
        clear hK K
        repeat ((with_reducible refine mix_op ?_ ?_); (focus rfl); intro K hK; go_step; refine hK _ _ hS9 ?_; clear hK K)
        refine mix_nil ?_
        go_wp2
        go_ret2
        exact ⟨ret_str (by unfold bytesOf head hd; rw [str_app]; congr 2 <;> first | done | (simp; done) | (simp; omega) | omega), O1.trans hS9.2.2⟩
      · go_step
        refine (two_any _ _ (by omega) (by omega)).mono ?_
        rintro x w4 ⟨rfl, O4⟩
        have hS9 := HeldM.mk' lt1 cq cd (OA.trans O4)
        have C4 := conv2_at (O4.at hb (by simp))
        refine hK _ _ hS9 ?_
        clear hK K
        refine anyH_mix [(7, false), (11, false), (14, false), (15, false), (16, false)] (by kernel_rfl) (by kernel_rfl) (fun d v c a w h => by cases d <;> exact h) hS9 ?_
        simp only [mixOps, List.filterMap_cons, List.filterMap_nil, List.getElem?_toArray, List.getElem?_cons_succ, List.getElem?_cons_zero, Option.map_some]
        repeat ((with_reducible refine mix_op ?_ ?_); (focus rfl); intro K hK; go_step; refine hK _ _ hS9 ?_; clear hK K)
        refine mix_nil ?_
        go_wp2
        go_ret2
        exact ⟨ret_str (by unfold bytesOf head hd; rw [str_app]; congr 2 <;> first | done | (simp; done) | (simp; omega) | omega), O1.trans hS9.2.2⟩
    · go_step
      refine (two_any _ _ (by omega) (by omega)).mono ?_
      rintro x w4 ⟨rfl, O4⟩
      have OA := OW.trans O4
      have hS4 := HeldM.mk' lt1 cq cd OA
      refine hK _ _ hS4 ?_
      clear hK K C
      have C := fun x y => conv2' w4 _ rfl x y
      refine anyH_mix [(6, false), (7, false), (11, false), (14, false), (15, false), (16, false)] (by kernel_rfl) (by kernel_rfl) (fun d v c a w h => by cases d <;> exact h) hS4 ?_
      simp only [mixOps, List.filterMap_cons, List.filterMap_nil, List.getElem?_toArray, List.getElem?_cons_succ, List.getElem?_cons_zero, Option.map_some]
      ((with_reducible refine mix_op ?_ ?_); (focus rfl); intro K hK)
      go_step
      have hS9 := HeldM.mk' lt1 cq cd (OA.alloc (.cells #[.int .u8 64, .int .u8 (q / 65536)] 5))
      refine hK _ _ hS9 ?_
      clear hK K
      repeat ((with_reducible refine mix_op ?_ ?_); (focus rfl); intro K hK; go_step; refine hK _ _ hS9 ?_; clear hK K)
      refine mix_nil ?_
      go_wp2
      go_ret2
      exact ⟨ret_str (by unfold bytesOf head hd; rw [str_app]; congr 2 <;> first | done | (simp; done) | (simp; omega) | omega), O1.trans hS9.2.2⟩
  · go_enter Try.func35, Try.ntmps35
    go_wp2_with fail
    refine wp_region_reads mixed (by kernel_rfl) ?_
    repeat ((with_reducible refine wpStill_op ?_ ?_ ?_); (focus kernel_rfl); (focus kernel_rfl); intro K hK; go_step; refine hK _ ?_; clear hK K)
    still_call (rstill _ _ rfl _)
    rw [show ring false = 16777216 from rfl]
    repeat ((with_reducible refine wpStill_op ?_ ?_ ?_); (focus kernel_rfl); (focus kernel_rfl); intro K hK; go_step; refine hK _ ?_; clear hK K)
    refine wpStill_nil ?_
    go_upto_region 10 with fail
    have cq : (w.alloc (.cells #[.bool true, .bool false, .int .i64 q, .string d] 33)).drew.cell? ⟨w.heap.size, 2, none⟩ = some (.int .i64 q) := cell_of (heap_alloc_new' w (.cells #[.bool true, .bool false, .int .i64 q, .string d] 33)) 2
    have cd : (w.alloc (.cells #[.bool true, .bool false, .int .i64 q, .string d] 33)).drew.cell? ⟨w.heap.size, 3, none⟩ = some (.string d) := cell_of (heap_alloc_new' w (.cells #[.bool true, .bool false, .int .i64 q, .string d] 33)) 3
    have O1 : Only [] w (w.alloc (.cells #[.bool true, .bool false, .int .i64 q, .string d] 33)).drew := ((Only.refl [] w).alloc _).drew
    have lt1 : w.heap.size < (w.alloc (.cells #[.bool true, .bool false, .int .i64 q, .string d] 33)).drew.heap.size := lt_of_block (heap_alloc_new' w (.cells #[.bool true, .bool false, .int .i64 q, .string d] 33))
    generalize (w.alloc (.cells #[.bool true, .bool false, .int .i64 q, .string d] 33)).drew = w1 at *
    generalize w.heap.size = B at *
    refine wp_region_part (HeldM B q d w1) [(0, true), (1, true), (2, true), (3, true), (4, true), (5, true), (8, true), (9, true), (12, true), (13, true)] 7 #[true, true, true, true, true, true, false, false, true, true, false, false, true, true, false, false, false] mixed (by kernel_rfl) (fun d v c a w h => by cases d <;> exact h) (HeldM.mk' lt1 cq cd (Only.drew (Only.refl _ _))) ?_
    simp only [List.filterMap_cons, List.filterMap_nil, List.getElem?_cons_succ, List.getElem?_cons_zero, Option.map_some]
    have OW : Only [] w1 w1.drew := Only.drew (Only.refl _ _)
    generalize w1.drew = w2 at *
    ((with_reducible refine mixR_move ?_ ?_); (focus rfl))
    iterate 9 ((with_reducible refine mixR_free ?_ (v := ?_) (fun w' h' => ?_) ?_); (focus rfl); rotate_left; (focus (obtain ⟨c2, c3, h5⟩ := h'; go_simp <;> with_reducible rfl)))
    refine mixR_nil ?_
    intro hS
    have C := fun x y => conv2' w2 _ rfl x y
    refine anyH_two 6 10 _ _ (by kernel_rfl) rfl rfl rfl rfl (fun K hK => ?_) (fun K hK => ?_)
    · go_step
      have OA : Only [] w1 (w2.alloc (.cells #[.int .u8 128, .int .u8 (q / 65536)] 5)) := OW.alloc _
      refine hK _ _ (HeldM.mk' lt1 cq cd OA) ?_
      clear hK K C
      have hb := heap_alloc_new' w2 (.cells #[.int .u8 128, .int .u8 (q / 65536)] 5)
      have C := conv2_at hb
      generalize World.alloc w2 _ = w3 at *
      generalize w2.heap.size = g at *
      have hS3 := HeldM.mk' lt1 cq cd OA
      refine anyH_two 7 10 _ _ (by kernel_rfl) rfl rfl rfl rfl (fun K hK => ?_) (fun K hK => ?_)
      · go_step
        refine hK _ _ hS3 ?_
        clear hK K
        refine anyH_mix [(10, false), (11, false), (14, false), (15, false), (16, false)] (by kernel_rfl) (by kernel_rfl) (fun d v c a w h => by cases d <;> exact h) hS3 ?_
        simp only [mixOps, List.filterMap_cons, List.filterMap_nil, List.getElem?_toArray, List.getElem?_cons_succ, List.getElem?_cons_zero, Option.map_some]
        ((with_reducible refine mix_op ?_ ?_); (focus rfl); intro K hK)
        go_step
        refine (two_any _ _ (by omega) (by omega)).mono ?_
        rintro x w4 ⟨rfl, O4⟩
        have hS9 := HeldM.mk' lt1 cq cd (OA.trans O4)
        refine hK _ _ hS9 ?_
        clear hK K
        repeat ((with_reducible refine mix_op ?_ ?_); (focus rfl); intro K hK; go_step; refine hK _ _ hS9 ?_; clear hK K)
        refine mix_nil ?_
        go_wp2
        go_ret2
        exact ⟨ret_str (by unfold bytesOf head hd; rw [str_app]; congr 2 <;> first | done | (simp; done) | (simp; omega) | omega), O1.trans hS9.2.2⟩
      · go_step
        refine (two_any _ _ (by omega) (by omega)).mono ?_
        rintro x w4 ⟨rfl, O4⟩
        have hS9 := HeldM.mk' lt1 cq cd (OA.trans O4)
        have C4 := conv2_at (O4.at hb (by simp))
        refine hK _ _ hS9 ?_
        clear hK K
        refine anyH_mix [(7, false), (11, false), (14, false), (15, false), (16, false)] (by kernel_rfl) (by kernel_rfl) (fun d v c a w h => by cases d <;> exact h) hS9 ?_
        simp only [mixOps, List.filterMap_cons, List.filterMap_nil, List.getElem?_toArray, List.getElem?_cons_succ, List.getElem?_cons_zero, Option.map_some]
        repeat ((with_reducible refine mix_op ?_ ?_); (focus rfl); intro K hK; go_step; refine hK _ _ hS9 ?_; clear hK K)
        refine mix_nil ?_
        go_wp2
        go_ret2
        exact ⟨ret_str (by unfold bytesOf head hd; rw [str_app]; congr 2 <;> first | done | (simp; done) | (simp; omega) | omega), O1.trans hS9.2.2⟩
    · go_step
      refine (two_any _ _ (by omega) (by omega)).mono ?_
      rintro x w4 ⟨rfl, O4⟩
      have OA := OW.trans O4
      have hS4 := HeldM.mk' lt1 cq cd OA
      refine hK _ _ hS4 ?_
      clear hK K C
      have C := fun x y => conv2' w4 _ rfl x y
      refine anyH_mix [(6, false), (7, false), (11, false), (14, false), (15, false), (16, false)] (by kernel_rfl) (by kernel_rfl) (fun d v c a w h => by cases d <;> exact h) hS4 ?_
      simp only [mixOps, List.filterMap_cons, List.filterMap_nil, List.getElem?_toArray, List.getElem?_cons_succ, List.getElem?_cons_zero, Option.map_some]
      ((with_reducible refine mix_op ?_ ?_); (focus rfl); intro K hK)
      go_step
      have hS9 := HeldM.mk' lt1 cq cd (OA.alloc (.cells #[.int .u8 128, .int .u8 (q / 65536)] 5))
      refine hK _ _ hS9 ?_
      clear hK K
      repeat ((with_reducible refine mix_op ?_ ?_); (focus rfl); intro K hK; go_step; refine hK _ _ hS9 ?_; clear hK K)
      refine mix_nil ?_
      go_wp2
      go_ret2
      exact ⟨ret_str (by unfold bytesOf head hd; rw [str_app]; congr 2 <;> first | done | (simp; done) | (simp; omega) | omega), O1.trans hS9.2.2⟩
  · go_enter Try.func35, Try.ntmps35
    go_wp2_with fail
    refine wp_region_reads mixed (by kernel_rfl) ?_
    repeat ((with_reducible refine wpStill_op ?_ ?_ ?_); (focus kernel_rfl); (focus kernel_rfl); intro K hK; go_step; refine hK _ ?_; clear hK K)
    still_call (rstill _ _ rfl _)
    rw [show ring false = 16777216 from rfl]
    repeat ((with_reducible refine wpStill_op ?_ ?_ ?_); (focus kernel_rfl); (focus kernel_rfl); intro K hK; go_step; refine hK _ ?_; clear hK K)
    refine wpStill_nil ?_
    go_upto_region 10 with fail
    have cq : (w.alloc (.cells #[.bool true, .bool true, .int .i64 q, .string d] 33)).drew.cell? ⟨w.heap.size, 2, none⟩ = some (.int .i64 q) := cell_of (heap_alloc_new' w (.cells #[.bool true, .bool true, .int .i64 q, .string d] 33)) 2
    have cd : (w.alloc (.cells #[.bool true, .bool true, .int .i64 q, .string d] 33)).drew.cell? ⟨w.heap.size, 3, none⟩ = some (.string d) := cell_of (heap_alloc_new' w (.cells #[.bool true, .bool true, .int .i64 q, .string d] 33)) 3
    have O1 : Only [] w (w.alloc (.cells #[.bool true, .bool true, .int .i64 q, .string d] 33)).drew := ((Only.refl [] w).alloc _).drew
    have lt1 : w.heap.size < (w.alloc (.cells #[.bool true, .bool true, .int .i64 q, .string d] 33)).drew.heap.size := lt_of_block (heap_alloc_new' w (.cells #[.bool true, .bool true, .int .i64 q, .string d] 33))
    generalize (w.alloc (.cells #[.bool true, .bool true, .int .i64 q, .string d] 33)).drew = w1 at *
    generalize w.heap.size = B at *
    refine wp_region_part (HeldM B q d w1) [(0, true), (1, true), (2, true), (3, true), (4, true), (5, true), (8, true), (9, true), (12, true), (13, true)] 7 #[true, true, true, true, true, true, false, false, true, true, false, false, true, true, false, false, false] mixed (by kernel_rfl) (fun d v c a w h => by cases d <;> exact h) (HeldM.mk' lt1 cq cd (Only.drew (Only.refl _ _))) ?_
    simp only [List.filterMap_cons, List.filterMap_nil, List.getElem?_cons_succ, List.getElem?_cons_zero, Option.map_some]
    have OW : Only [] w1 w1.drew := Only.drew (Only.refl _ _)
    generalize w1.drew = w2 at *
    ((with_reducible refine mixR_move ?_ ?_); (focus rfl))
    iterate 9 ((with_reducible refine mixR_free ?_ (v := ?_) (fun w' h' => ?_) ?_); (focus rfl); rotate_left; (focus (obtain ⟨c2, c3, h5⟩ := h'; go_simp <;> with_reducible rfl)))
    refine mixR_nil ?_
    intro hS
    have C := fun x y => conv2' w2 _ rfl x y
    refine anyH_two 6 10 _ _ (by kernel_rfl) rfl rfl rfl rfl (fun K hK => ?_) (fun K hK => ?_)
    · go_step
      have OA : Only [] w1 (w2.alloc (.cells #[.int .u8 192, .int .u8 (q / 65536)] 5)) := OW.alloc _
      refine hK _ _ (HeldM.mk' lt1 cq cd OA) ?_
      clear hK K C
      have hb := heap_alloc_new' w2 (.cells #[.int .u8 192, .int .u8 (q / 65536)] 5)
      have C := conv2_at hb
      generalize World.alloc w2 _ = w3 at *
      generalize w2.heap.size = g at *
      have hS3 := HeldM.mk' lt1 cq cd OA
      refine anyH_two 7 10 _ _ (by kernel_rfl) rfl rfl rfl rfl (fun K hK => ?_) (fun K hK => ?_)
      · go_step
        refine hK _ _ hS3 ?_
        clear hK K
        refine anyH_mix [(10, false), (11, false), (14, false), (15, false), (16, false)] (by kernel_rfl) (by kernel_rfl) (fun d v c a w h => by cases d <;> exact h) hS3 ?_
        simp only [mixOps, List.filterMap_cons, List.filterMap_nil, List.getElem?_toArray, List.getElem?_cons_succ, List.getElem?_cons_zero, Option.map_some]
        ((with_reducible refine mix_op ?_ ?_); (focus rfl); intro K hK)
        go_step
        refine (two_any _ _ (by omega) (by omega)).mono ?_
        rintro x w4 ⟨rfl, O4⟩
        have hS9 := HeldM.mk' lt1 cq cd (OA.trans O4)
        refine hK _ _ hS9 ?_
        clear hK K
        repeat ((with_reducible refine mix_op ?_ ?_); (focus rfl); intro K hK; go_step; refine hK _ _ hS9 ?_; clear hK K)
        refine mix_nil ?_
        go_wp2
        go_ret2
        exact ⟨ret_str (by unfold bytesOf head hd; rw [str_app]; congr 2 <;> first | done | (simp; done) | (simp; omega) | omega), O1.trans hS9.2.2⟩
      · go_step
        refine (two_any _ _ (by omega) (by omega)).mono ?_
        rintro x w4 ⟨rfl, O4⟩
        have hS9 := HeldM.mk' lt1 cq cd (OA.trans O4)
        have C4 := conv2_at (O4.at hb (by simp))
        refine hK _ _ hS9 ?_
        clear hK K
        refine anyH_mix [(7, false), (11, false), (14, false), (15, false), (16, false)] (by kernel_rfl) (by kernel_rfl) (fun d v c a w h => by cases d <;> exact h) hS9 ?_
        simp only [mixOps, List.filterMap_cons, List.filterMap_nil, List.getElem?_toArray, List.getElem?_cons_succ, List.getElem?_cons_zero, Option.map_some]
        repeat ((with_reducible refine mix_op ?_ ?_); (focus rfl); intro K hK; go_step; refine hK _ _ hS9 ?_; clear hK K)
        refine mix_nil ?_
        go_wp2
        go_ret2
        exact ⟨ret_str (by unfold bytesOf head hd; rw [str_app]; congr 2 <;> first | done | (simp; done) | (simp; omega) | omega), O1.trans hS9.2.2⟩
    · go_step
      refine (two_any _ _ (by omega) (by omega)).mono ?_
      rintro x w4 ⟨rfl, O4⟩
      have OA := OW.trans O4
      have hS4 := HeldM.mk' lt1 cq cd OA
      refine hK _ _ hS4 ?_
      clear hK K C
      have C := fun x y => conv2' w4 _ rfl x y
      refine anyH_mix [(6, false), (7, false), (11, false), (14, false), (15, false), (16, false)] (by kernel_rfl) (by kernel_rfl) (fun d v c a w h => by cases d <;> exact h) hS4 ?_
      simp only [mixOps, List.filterMap_cons, List.filterMap_nil, List.getElem?_toArray, List.getElem?_cons_succ, List.getElem?_cons_zero, Option.map_some]
      ((with_reducible refine mix_op ?_ ?_); (focus rfl); intro K hK)
      go_step
      have hS9 := HeldM.mk' lt1 cq cd (OA.alloc (.cells #[.int .u8 192, .int .u8 (q / 65536)] 5))
      refine hK _ _ hS9 ?_
      clear hK K
      repeat ((with_reducible refine mix_op ?_ ?_); (focus rfl); intro K hK; go_step; refine hK _ _ hS9 ?_; clear hK K)
      refine mix_nil ?_
      go_wp2
      go_ret2
      exact ⟨ret_str (by unfold bytesOf head hd; rw [str_app]; congr 2 <;> first | done | (simp; done) | (simp; omega) | omega), O1.trans hS9.2.2⟩

/-- a fragment in bytes: may it be? -/
theorem mp_any (f : Fr) (short : Bool) (w : World) :
    Calls Try.prog 35 #[.agg #[.bool f.b, .bool f.e, .int .i64 f.q, .string f.d], .bool short] w fun x w' => ∃ s, x = .returned (.tuple #[.string s, .int .i64 (if mayF short f = true then 0 else 801)]) ∧ Only [] w w' := by
  obtain ⟨b, e, q, d⟩ := f
  by_cases h : mayF short ⟨b, e, q, d⟩ = true
  · rw [if_pos h]
    have h' : 0 ≤ q ∧ q < ring short ∧ d.size ≤ 2048 := by simpa [mayF] using h
    obtain ⟨h0, h1, h2⟩ := h'
    cases short
    · exact (mp_long b e q d w h0 h1 h2).mono fun x w' ⟨a, c⟩ => ⟨_, a, c⟩
    · exact (mp_short b e q d w h0 h1 h2).mono fun x w' ⟨a, c⟩ => ⟨_, a, c⟩
  · rw [if_neg h]
    have h' : q < 0 ∨ ring short ≤ q ∨ 2048 < d.size := by
      have : ¬ (0 ≤ q ∧ q < ring short ∧ d.size ≤ 2048) := fun e => h (by simpa [mayF] using e)
      omega
    exact (mp_bad b e q d short w h').mono fun x w' ⟨a, c⟩ => ⟨_, a, c⟩
end Go.Proofs.Ytcfgbfabokhjcaa.Rmp

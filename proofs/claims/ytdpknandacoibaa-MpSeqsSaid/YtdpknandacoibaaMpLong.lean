/- The contract of the reference's Mp, long heads. -/
import Derived.Test.YtdpknandacoibaaMp
import Derived.Test.YtdpknandacoibaaRegion5
namespace Go.Proofs.Ytdpknandacoibaa
open Go.RowKit
open Plain

theorem conv2_at {w : World} {g : Nat} {x y : Int} (h : w.heap[g]? = some (.cells #[.int .u8 x, .int .u8 y] 5)) : (convert 36 9 (.slice (some ⟨g, 0, none⟩) 2 2)).run Try.prog w = .ok (.string (strOfNums [x, y])) w := by
  refine run_convert_bytes_arg _ 36 5 Try.underlying36 (by kernel_rfl) _ 0 _ _ [x, y] rfl (fun j hj => ?_) 9 Try.underlying9
  rw [cell_of h]
  have hj' : j < 2 := hj
  rcases (show j = 0 ∨ j = 1 by omega) with rfl | rfl <;> rfl
theorem str_app (x y z t : Int) : strOfNums [x, y] ++ strOfNums [z, t] = strOfNums [x, y, z, t] := rfl

set_option maxRecDepth 100000 in
set_option maxHeartbeats 4000000 in
theorem mp_long (b e : Bool) (q : Int) (d : ByteArray) (w : World) (h1 : 0 ≤ q) (h2 : q < 16777216) (h3 : d.size ≤ 2048) :
    Calls Try.prog 8 #[.agg #[.bool b, .bool e, .int .i64 q, .string d], .bool false] w fun x w' => x = .returned (.tuple #[.string (bytesOf b e q d false), .int .i64 0]) ∧ Only [] w w' := by
  have d1 : decide (q < 0) = false := by simp; omega
  have d2 : decide (16777216 ≤ q) = false := by simp; omega
  have d3 : decide (2048 < (d.size : Int)) = false := by simp; omega
  have ds : d.size ≤ 9223372036854775000 := by omega
  have SZ : ∀ l : List Int, (strOfNums l).size = l.length := strOfNums_size
  cases b <;> cases e
  · go_enter Try.func8, Try.ntmps8
    go_wp2_with fail
    refine wp_region_reads mixed (by kernel_rfl) ?_
    repeat (refine wpStill_op rfl rfl (fun K hK => ?_); go_step; refine hK _ ?_; clear hK K)
    still_call (still14 _ _ rfl _)
    rw [show ring false = 16777216 from rfl]
    repeat (refine wpStill_op rfl rfl (fun K hK => ?_); go_step; refine hK _ ?_; clear hK K)
    refine wpStill_nil ?_
    go_upto_region 10 with fail
    have cq : (w.alloc (.cells #[.bool false, .bool false, .int .i64 q, .string d] 23)).drew.cell? ⟨w.heap.size, 2, none⟩ = some (.int .i64 q) := cell_of (heap_alloc_new' w (.cells #[.bool false, .bool false, .int .i64 q, .string d] 23)) 2
    have cd : (w.alloc (.cells #[.bool false, .bool false, .int .i64 q, .string d] 23)).drew.cell? ⟨w.heap.size, 3, none⟩ = some (.string d) := cell_of (heap_alloc_new' w (.cells #[.bool false, .bool false, .int .i64 q, .string d] 23)) 3
    have O1 : Only [] w (w.alloc (.cells #[.bool false, .bool false, .int .i64 q, .string d] 23)).drew := ((Only.refl [] w).alloc _).drew
    have lt1 : w.heap.size < (w.alloc (.cells #[.bool false, .bool false, .int .i64 q, .string d] 23)).drew.heap.size := lt_of_block (heap_alloc_new' w (.cells #[.bool false, .bool false, .int .i64 q, .string d] 23))
    generalize (w.alloc (.cells #[.bool false, .bool false, .int .i64 q, .string d] 23)).drew = w1 at *
    generalize w.heap.size = B at *
    refine wp_region_part (Held B q d w1) [(0, true), (1, true), (2, true), (3, true), (4, true), (5, true), (8, true), (9, true), (12, true), (13, true)] 7 #[true, true, true, true, true, true, false, false, true, true, false, false, true, true, false, false, false] mixed (by kernel_rfl) (fun d v c a w h => by cases d <;> exact h) (Held.mk' lt1 cq cd (Only.drew (Only.refl _ _))) ?_
    simp only [List.filterMap_cons, List.filterMap_nil, List.getElem?_cons_succ, List.getElem?_cons_zero, Option.map_some]
    have OW : Only [] w1 w1.drew := Only.drew (Only.refl _ _)
    generalize w1.drew = w2 at *
    repeat (first | refine mixR_move rfl ?_ | (refine mixR_free rfl (v := ?_) (fun w' h' => ?_) ?_; rotate_left; (focus (obtain ⟨c2, c3, h5⟩ := h'; go_simp <;> with_reducible rfl))))
    refine mixR_nil ?_
    intro hS
    have C := fun x y => conv2' w2 _ rfl x y
    refine anyH_two 6 10 _ _ (by kernel_rfl) rfl rfl rfl rfl (fun K hK => ?_) (fun K hK => ?_)
    · go_step
      have OA : Only [] w1 (w2.alloc (.cells #[.int .u8 0, .int .u8 (q / 65536)] 5)) := OW.alloc _
      refine hK _ _ (Held.mk' lt1 cq cd OA) ?_
      clear hK K C
      have hb := heap_alloc_new' w2 (.cells #[.int .u8 0, .int .u8 (q / 65536)] 5)
      have C := conv2_at hb
      generalize World.alloc w2 _ = w3 at *
      generalize w2.heap.size = g at *
      have hS3 := Held.mk' lt1 cq cd OA
      refine anyH_two 7 10 _ _ (by kernel_rfl) rfl rfl rfl rfl (fun K hK => ?_) (fun K hK => ?_)
      · go_step
        refine hK _ _ hS3 ?_
        clear hK K
        refine anyH_mix [(10, false), (11, false), (14, false), (15, false), (16, false)] (by kernel_rfl) (by kernel_rfl) (fun d v c a w h => by cases d <;> exact h) hS3 ?_
        simp only [mixOps, List.filterMap_cons, List.filterMap_nil, List.getElem?_toArray, List.getElem?_cons_succ, List.getElem?_cons_zero, Option.map_some]
        refine mix_op rfl (fun K hK => ?_)
        go_step
        refine (two_any _ _ (by omega) (by omega)).mono ?_
        rintro x w4 ⟨rfl, O4⟩
        have hS9 := Held.mk' lt1 cq cd (OA.trans O4)
        refine hK _ _ hS9 ?_
        clear hK K
        repeat (refine mix_op rfl (fun K hK => ?_); go_step; refine hK _ _ hS9 ?_; clear hK K)
        refine mix_nil ?_
        go_wp2
        go_ret2
        exact ⟨ret_str (by unfold bytesOf head hd; rw [str_app]; congr 2 <;> first | done | (simp; done) | (simp; omega) | omega), O1.trans hS9.2.2⟩
      · go_step
        refine (two_any _ _ (by omega) (by omega)).mono ?_
        rintro x w4 ⟨rfl, O4⟩
        have hS9 := Held.mk' lt1 cq cd (OA.trans O4)
        have C4 := conv2_at (O4.at hb (by simp))
        refine hK _ _ hS9 ?_
        clear hK K
        refine anyH_mix [(7, false), (11, false), (14, false), (15, false), (16, false)] (by kernel_rfl) (by kernel_rfl) (fun d v c a w h => by cases d <;> exact h) hS9 ?_
        simp only [mixOps, List.filterMap_cons, List.filterMap_nil, List.getElem?_toArray, List.getElem?_cons_succ, List.getElem?_cons_zero, Option.map_some]
        repeat (refine mix_op rfl (fun K hK => ?_); go_step; refine hK _ _ hS9 ?_; clear hK K)
        refine mix_nil ?_
        go_wp2
        go_ret2
        exact ⟨ret_str (by unfold bytesOf head hd; rw [str_app]; congr 2 <;> first | done | (simp; done) | (simp; omega) | omega), O1.trans hS9.2.2⟩
    · go_step
      refine (two_any _ _ (by omega) (by omega)).mono ?_
      rintro x w4 ⟨rfl, O4⟩
      have OA := OW.trans O4
      have hS4 := Held.mk' lt1 cq cd OA
      refine hK _ _ hS4 ?_
      clear hK K C
      have C := fun x y => conv2' w4 _ rfl x y
      refine anyH_mix [(6, false), (7, false), (11, false), (14, false), (15, false), (16, false)] (by kernel_rfl) (by kernel_rfl) (fun d v c a w h => by cases d <;> exact h) hS4 ?_
      simp only [mixOps, List.filterMap_cons, List.filterMap_nil, List.getElem?_toArray, List.getElem?_cons_succ, List.getElem?_cons_zero, Option.map_some]
      refine mix_op rfl (fun K hK => ?_)
      go_step
      have hS9 := Held.mk' lt1 cq cd (OA.alloc (.cells #[.int .u8 0, .int .u8 (q / 65536)] 5))
      refine hK _ _ hS9 ?_
      clear hK K
      repeat (refine mix_op rfl (fun K hK => ?_); go_step; refine hK _ _ hS9 ?_; clear hK K)
      refine mix_nil ?_
      go_wp2
      go_ret2
      exact ⟨ret_str (by unfold bytesOf head hd; rw [str_app]; congr 2 <;> first | done | (simp; done) | (simp; omega) | omega), O1.trans hS9.2.2⟩
  · go_enter Try.func8, Try.ntmps8
    go_wp2_with fail
    refine wp_region_reads mixed (by kernel_rfl) ?_
    repeat (refine wpStill_op rfl rfl (fun K hK => ?_); go_step; refine hK _ ?_; clear hK K)
    still_call (still14 _ _ rfl _)
    rw [show ring false = 16777216 from rfl]
    repeat (refine wpStill_op rfl rfl (fun K hK => ?_); go_step; refine hK _ ?_; clear hK K)
    refine wpStill_nil ?_
    go_upto_region 10 with fail
    have cq : (w.alloc (.cells #[.bool false, .bool true, .int .i64 q, .string d] 23)).drew.cell? ⟨w.heap.size, 2, none⟩ = some (.int .i64 q) := cell_of (heap_alloc_new' w (.cells #[.bool false, .bool true, .int .i64 q, .string d] 23)) 2
    have cd : (w.alloc (.cells #[.bool false, .bool true, .int .i64 q, .string d] 23)).drew.cell? ⟨w.heap.size, 3, none⟩ = some (.string d) := cell_of (heap_alloc_new' w (.cells #[.bool false, .bool true, .int .i64 q, .string d] 23)) 3
    have O1 : Only [] w (w.alloc (.cells #[.bool false, .bool true, .int .i64 q, .string d] 23)).drew := ((Only.refl [] w).alloc _).drew
    have lt1 : w.heap.size < (w.alloc (.cells #[.bool false, .bool true, .int .i64 q, .string d] 23)).drew.heap.size := lt_of_block (heap_alloc_new' w (.cells #[.bool false, .bool true, .int .i64 q, .string d] 23))
    generalize (w.alloc (.cells #[.bool false, .bool true, .int .i64 q, .string d] 23)).drew = w1 at *
    generalize w.heap.size = B at *
    refine wp_region_part (Held B q d w1) [(0, true), (1, true), (2, true), (3, true), (4, true), (5, true), (8, true), (9, true), (12, true), (13, true)] 7 #[true, true, true, true, true, true, false, false, true, true, false, false, true, true, false, false, false] mixed (by kernel_rfl) (fun d v c a w h => by cases d <;> exact h) (Held.mk' lt1 cq cd (Only.drew (Only.refl _ _))) ?_
    simp only [List.filterMap_cons, List.filterMap_nil, List.getElem?_cons_succ, List.getElem?_cons_zero, Option.map_some]
    have OW : Only [] w1 w1.drew := Only.drew (Only.refl _ _)
    generalize w1.drew = w2 at *
    repeat (first | refine mixR_move rfl ?_ | (refine mixR_free rfl (v := ?_) (fun w' h' => ?_) ?_; rotate_left; (focus (obtain ⟨c2, c3, h5⟩ := h'; go_simp <;> with_reducible rfl))))
    refine mixR_nil ?_
    intro hS
    have C := fun x y => conv2' w2 _ rfl x y
    refine anyH_two 6 10 _ _ (by kernel_rfl) rfl rfl rfl rfl (fun K hK => ?_) (fun K hK => ?_)
    · go_step
      have OA : Only [] w1 (w2.alloc (.cells #[.int .u8 64, .int .u8 (q / 65536)] 5)) := OW.alloc _
      refine hK _ _ (Held.mk' lt1 cq cd OA) ?_
      clear hK K C
      have hb := heap_alloc_new' w2 (.cells #[.int .u8 64, .int .u8 (q / 65536)] 5)
      have C := conv2_at hb
      generalize World.alloc w2 _ = w3 at *
      generalize w2.heap.size = g at *
      have hS3 := Held.mk' lt1 cq cd OA
      refine anyH_two 7 10 _ _ (by kernel_rfl) rfl rfl rfl rfl (fun K hK => ?_) (fun K hK => ?_)
      · go_step
        refine hK _ _ hS3 ?_
        clear hK K
        refine anyH_mix [(10, false), (11, false), (14, false), (15, false), (16, false)] (by kernel_rfl) (by kernel_rfl) (fun d v c a w h => by cases d <;> exact h) hS3 ?_
        simp only [mixOps, List.filterMap_cons, List.filterMap_nil, List.getElem?_toArray, List.getElem?_cons_succ, List.getElem?_cons_zero, Option.map_some]
        refine mix_op rfl (fun K hK => ?_)
        go_step
        refine (two_any _ _ (by omega) (by omega)).mono ?_
        rintro x w4 ⟨rfl, O4⟩
        have hS9 := Held.mk' lt1 cq cd (OA.trans O4)
        refine hK _ _ hS9 ?_
        clear hK K
        repeat (refine mix_op rfl (fun K hK => ?_); go_step; refine hK _ _ hS9 ?_; clear hK K)
        refine mix_nil ?_
        go_wp2
        go_ret2
        exact ⟨ret_str (by unfold bytesOf head hd; rw [str_app]; congr 2 <;> first | done | (simp; done) | (simp; omega) | omega), O1.trans hS9.2.2⟩
      · go_step
        refine (two_any _ _ (by omega) (by omega)).mono ?_
        rintro x w4 ⟨rfl, O4⟩
        have hS9 := Held.mk' lt1 cq cd (OA.trans O4)
        have C4 := conv2_at (O4.at hb (by simp))
        refine hK _ _ hS9 ?_
        clear hK K
        refine anyH_mix [(7, false), (11, false), (14, false), (15, false), (16, false)] (by kernel_rfl) (by kernel_rfl) (fun d v c a w h => by cases d <;> exact h) hS9 ?_
        simp only [mixOps, List.filterMap_cons, List.filterMap_nil, List.getElem?_toArray, List.getElem?_cons_succ, List.getElem?_cons_zero, Option.map_some]
        repeat (refine mix_op rfl (fun K hK => ?_); go_step; refine hK _ _ hS9 ?_; clear hK K)
        refine mix_nil ?_
        go_wp2
        go_ret2
        exact ⟨ret_str (by unfold bytesOf head hd; rw [str_app]; congr 2 <;> first | done | (simp; done) | (simp; omega) | omega), O1.trans hS9.2.2⟩
    · go_step
      refine (two_any _ _ (by omega) (by omega)).mono ?_
      rintro x w4 ⟨rfl, O4⟩
      have OA := OW.trans O4
      have hS4 := Held.mk' lt1 cq cd OA
      refine hK _ _ hS4 ?_
      clear hK K C
      have C := fun x y => conv2' w4 _ rfl x y
      refine anyH_mix [(6, false), (7, false), (11, false), (14, false), (15, false), (16, false)] (by kernel_rfl) (by kernel_rfl) (fun d v c a w h => by cases d <;> exact h) hS4 ?_
      simp only [mixOps, List.filterMap_cons, List.filterMap_nil, List.getElem?_toArray, List.getElem?_cons_succ, List.getElem?_cons_zero, Option.map_some]
      refine mix_op rfl (fun K hK => ?_)
      go_step
      have hS9 := Held.mk' lt1 cq cd (OA.alloc (.cells #[.int .u8 64, .int .u8 (q / 65536)] 5))
      refine hK _ _ hS9 ?_
      clear hK K
      repeat (refine mix_op rfl (fun K hK => ?_); go_step; refine hK _ _ hS9 ?_; clear hK K)
      refine mix_nil ?_
      go_wp2
      go_ret2
      exact ⟨ret_str (by unfold bytesOf head hd; rw [str_app]; congr 2 <;> first | done | (simp; done) | (simp; omega) | omega), O1.trans hS9.2.2⟩
  · go_enter Try.func8, Try.ntmps8
    go_wp2_with fail
    refine wp_region_reads mixed (by kernel_rfl) ?_
    repeat (refine wpStill_op rfl rfl (fun K hK => ?_); go_step; refine hK _ ?_; clear hK K)
    still_call (still14 _ _ rfl _)
    rw [show ring false = 16777216 from rfl]
    repeat (refine wpStill_op rfl rfl (fun K hK => ?_); go_step; refine hK _ ?_; clear hK K)
    refine wpStill_nil ?_
    go_upto_region 10 with fail
    have cq : (w.alloc (.cells #[.bool true, .bool false, .int .i64 q, .string d] 23)).drew.cell? ⟨w.heap.size, 2, none⟩ = some (.int .i64 q) := cell_of (heap_alloc_new' w (.cells #[.bool true, .bool false, .int .i64 q, .string d] 23)) 2
    have cd : (w.alloc (.cells #[.bool true, .bool false, .int .i64 q, .string d] 23)).drew.cell? ⟨w.heap.size, 3, none⟩ = some (.string d) := cell_of (heap_alloc_new' w (.cells #[.bool true, .bool false, .int .i64 q, .string d] 23)) 3
    have O1 : Only [] w (w.alloc (.cells #[.bool true, .bool false, .int .i64 q, .string d] 23)).drew := ((Only.refl [] w).alloc _).drew
    have lt1 : w.heap.size < (w.alloc (.cells #[.bool true, .bool false, .int .i64 q, .string d] 23)).drew.heap.size := lt_of_block (heap_alloc_new' w (.cells #[.bool true, .bool false, .int .i64 q, .string d] 23))
    generalize (w.alloc (.cells #[.bool true, .bool false, .int .i64 q, .string d] 23)).drew = w1 at *
    generalize w.heap.size = B at *
    refine wp_region_part (Held B q d w1) [(0, true), (1, true), (2, true), (3, true), (4, true), (5, true), (8, true), (9, true), (12, true), (13, true)] 7 #[true, true, true, true, true, true, false, false, true, true, false, false, true, true, false, false, false] mixed (by kernel_rfl) (fun d v c a w h => by cases d <;> exact h) (Held.mk' lt1 cq cd (Only.drew (Only.refl _ _))) ?_
    simp only [List.filterMap_cons, List.filterMap_nil, List.getElem?_cons_succ, List.getElem?_cons_zero, Option.map_some]
    have OW : Only [] w1 w1.drew := Only.drew (Only.refl _ _)
    generalize w1.drew = w2 at *
    repeat (first | refine mixR_move rfl ?_ | (refine mixR_free rfl (v := ?_) (fun w' h' => ?_) ?_; rotate_left; (focus (obtain ⟨c2, c3, h5⟩ := h'; go_simp <;> with_reducible rfl))))
    refine mixR_nil ?_
    intro hS
    have C := fun x y => conv2' w2 _ rfl x y
    refine anyH_two 6 10 _ _ (by kernel_rfl) rfl rfl rfl rfl (fun K hK => ?_) (fun K hK => ?_)
    · go_step
      have OA : Only [] w1 (w2.alloc (.cells #[.int .u8 128, .int .u8 (q / 65536)] 5)) := OW.alloc _
      refine hK _ _ (Held.mk' lt1 cq cd OA) ?_
      clear hK K C
      have hb := heap_alloc_new' w2 (.cells #[.int .u8 128, .int .u8 (q / 65536)] 5)
      have C := conv2_at hb
      generalize World.alloc w2 _ = w3 at *
      generalize w2.heap.size = g at *
      have hS3 := Held.mk' lt1 cq cd OA
      refine anyH_two 7 10 _ _ (by kernel_rfl) rfl rfl rfl rfl (fun K hK => ?_) (fun K hK => ?_)
      · go_step
        refine hK _ _ hS3 ?_
        clear hK K
        refine anyH_mix [(10, false), (11, false), (14, false), (15, false), (16, false)] (by kernel_rfl) (by kernel_rfl) (fun d v c a w h => by cases d <;> exact h) hS3 ?_
        simp only [mixOps, List.filterMap_cons, List.filterMap_nil, List.getElem?_toArray, List.getElem?_cons_succ, List.getElem?_cons_zero, Option.map_some]
        refine mix_op rfl (fun K hK => ?_)
        go_step
        refine (two_any _ _ (by omega) (by omega)).mono ?_
        rintro x w4 ⟨rfl, O4⟩
        have hS9 := Held.mk' lt1 cq cd (OA.trans O4)
        refine hK _ _ hS9 ?_
        clear hK K
        repeat (refine mix_op rfl (fun K hK => ?_); go_step; refine hK _ _ hS9 ?_; clear hK K)
        refine mix_nil ?_
        go_wp2
        go_ret2
        exact ⟨ret_str (by unfold bytesOf head hd; rw [str_app]; congr 2 <;> first | done | (simp; done) | (simp; omega) | omega), O1.trans hS9.2.2⟩
      · go_step
        refine (two_any _ _ (by omega) (by omega)).mono ?_
        rintro x w4 ⟨rfl, O4⟩
        have hS9 := Held.mk' lt1 cq cd (OA.trans O4)
        have C4 := conv2_at (O4.at hb (by simp))
        refine hK _ _ hS9 ?_
        clear hK K
        refine anyH_mix [(7, false), (11, false), (14, false), (15, false), (16, false)] (by kernel_rfl) (by kernel_rfl) (fun d v c a w h => by cases d <;> exact h) hS9 ?_
        simp only [mixOps, List.filterMap_cons, List.filterMap_nil, List.getElem?_toArray, List.getElem?_cons_succ, List.getElem?_cons_zero, Option.map_some]
        repeat (refine mix_op rfl (fun K hK => ?_); go_step; refine hK _ _ hS9 ?_; clear hK K)
        refine mix_nil ?_
        go_wp2
        go_ret2
        exact ⟨ret_str (by unfold bytesOf head hd; rw [str_app]; congr 2 <;> first | done | (simp; done) | (simp; omega) | omega), O1.trans hS9.2.2⟩
    · go_step
      refine (two_any _ _ (by omega) (by omega)).mono ?_
      rintro x w4 ⟨rfl, O4⟩
      have OA := OW.trans O4
      have hS4 := Held.mk' lt1 cq cd OA
      refine hK _ _ hS4 ?_
      clear hK K C
      have C := fun x y => conv2' w4 _ rfl x y
      refine anyH_mix [(6, false), (7, false), (11, false), (14, false), (15, false), (16, false)] (by kernel_rfl) (by kernel_rfl) (fun d v c a w h => by cases d <;> exact h) hS4 ?_
      simp only [mixOps, List.filterMap_cons, List.filterMap_nil, List.getElem?_toArray, List.getElem?_cons_succ, List.getElem?_cons_zero, Option.map_some]
      refine mix_op rfl (fun K hK => ?_)
      go_step
      have hS9 := Held.mk' lt1 cq cd (OA.alloc (.cells #[.int .u8 128, .int .u8 (q / 65536)] 5))
      refine hK _ _ hS9 ?_
      clear hK K
      repeat (refine mix_op rfl (fun K hK => ?_); go_step; refine hK _ _ hS9 ?_; clear hK K)
      refine mix_nil ?_
      go_wp2
      go_ret2
      exact ⟨ret_str (by unfold bytesOf head hd; rw [str_app]; congr 2 <;> first | done | (simp; done) | (simp; omega) | omega), O1.trans hS9.2.2⟩
  · go_enter Try.func8, Try.ntmps8
    go_wp2_with fail
    refine wp_region_reads mixed (by kernel_rfl) ?_
    repeat (refine wpStill_op rfl rfl (fun K hK => ?_); go_step; refine hK _ ?_; clear hK K)
    still_call (still14 _ _ rfl _)
    rw [show ring false = 16777216 from rfl]
    repeat (refine wpStill_op rfl rfl (fun K hK => ?_); go_step; refine hK _ ?_; clear hK K)
    refine wpStill_nil ?_
    go_upto_region 10 with fail
    have cq : (w.alloc (.cells #[.bool true, .bool true, .int .i64 q, .string d] 23)).drew.cell? ⟨w.heap.size, 2, none⟩ = some (.int .i64 q) := cell_of (heap_alloc_new' w (.cells #[.bool true, .bool true, .int .i64 q, .string d] 23)) 2
    have cd : (w.alloc (.cells #[.bool true, .bool true, .int .i64 q, .string d] 23)).drew.cell? ⟨w.heap.size, 3, none⟩ = some (.string d) := cell_of (heap_alloc_new' w (.cells #[.bool true, .bool true, .int .i64 q, .string d] 23)) 3
    have O1 : Only [] w (w.alloc (.cells #[.bool true, .bool true, .int .i64 q, .string d] 23)).drew := ((Only.refl [] w).alloc _).drew
    have lt1 : w.heap.size < (w.alloc (.cells #[.bool true, .bool true, .int .i64 q, .string d] 23)).drew.heap.size := lt_of_block (heap_alloc_new' w (.cells #[.bool true, .bool true, .int .i64 q, .string d] 23))
    generalize (w.alloc (.cells #[.bool true, .bool true, .int .i64 q, .string d] 23)).drew = w1 at *
    generalize w.heap.size = B at *
    refine wp_region_part (Held B q d w1) [(0, true), (1, true), (2, true), (3, true), (4, true), (5, true), (8, true), (9, true), (12, true), (13, true)] 7 #[true, true, true, true, true, true, false, false, true, true, false, false, true, true, false, false, false] mixed (by kernel_rfl) (fun d v c a w h => by cases d <;> exact h) (Held.mk' lt1 cq cd (Only.drew (Only.refl _ _))) ?_
    simp only [List.filterMap_cons, List.filterMap_nil, List.getElem?_cons_succ, List.getElem?_cons_zero, Option.map_some]
    have OW : Only [] w1 w1.drew := Only.drew (Only.refl _ _)
    generalize w1.drew = w2 at *
    repeat (first | refine mixR_move rfl ?_ | (refine mixR_free rfl (v := ?_) (fun w' h' => ?_) ?_; rotate_left; (focus (obtain ⟨c2, c3, h5⟩ := h'; go_simp <;> with_reducible rfl))))
    refine mixR_nil ?_
    intro hS
    have C := fun x y => conv2' w2 _ rfl x y
    refine anyH_two 6 10 _ _ (by kernel_rfl) rfl rfl rfl rfl (fun K hK => ?_) (fun K hK => ?_)
    · go_step
      have OA : Only [] w1 (w2.alloc (.cells #[.int .u8 192, .int .u8 (q / 65536)] 5)) := OW.alloc _
      refine hK _ _ (Held.mk' lt1 cq cd OA) ?_
      clear hK K C
      have hb := heap_alloc_new' w2 (.cells #[.int .u8 192, .int .u8 (q / 65536)] 5)
      have C := conv2_at hb
      generalize World.alloc w2 _ = w3 at *
      generalize w2.heap.size = g at *
      have hS3 := Held.mk' lt1 cq cd OA
      refine anyH_two 7 10 _ _ (by kernel_rfl) rfl rfl rfl rfl (fun K hK => ?_) (fun K hK => ?_)
      · go_step
        refine hK _ _ hS3 ?_
        clear hK K
        refine anyH_mix [(10, false), (11, false), (14, false), (15, false), (16, false)] (by kernel_rfl) (by kernel_rfl) (fun d v c a w h => by cases d <;> exact h) hS3 ?_
        simp only [mixOps, List.filterMap_cons, List.filterMap_nil, List.getElem?_toArray, List.getElem?_cons_succ, List.getElem?_cons_zero, Option.map_some]
        refine mix_op rfl (fun K hK => ?_)
        go_step
        refine (two_any _ _ (by omega) (by omega)).mono ?_
        rintro x w4 ⟨rfl, O4⟩
        have hS9 := Held.mk' lt1 cq cd (OA.trans O4)
        refine hK _ _ hS9 ?_
        clear hK K
        repeat (refine mix_op rfl (fun K hK => ?_); go_step; refine hK _ _ hS9 ?_; clear hK K)
        refine mix_nil ?_
        go_wp2
        go_ret2
        exact ⟨ret_str (by unfold bytesOf head hd; rw [str_app]; congr 2 <;> first | done | (simp; done) | (simp; omega) | omega), O1.trans hS9.2.2⟩
      · go_step
        refine (two_any _ _ (by omega) (by omega)).mono ?_
        rintro x w4 ⟨rfl, O4⟩
        have hS9 := Held.mk' lt1 cq cd (OA.trans O4)
        have C4 := conv2_at (O4.at hb (by simp))
        refine hK _ _ hS9 ?_
        clear hK K
        refine anyH_mix [(7, false), (11, false), (14, false), (15, false), (16, false)] (by kernel_rfl) (by kernel_rfl) (fun d v c a w h => by cases d <;> exact h) hS9 ?_
        simp only [mixOps, List.filterMap_cons, List.filterMap_nil, List.getElem?_toArray, List.getElem?_cons_succ, List.getElem?_cons_zero, Option.map_some]
        repeat (refine mix_op rfl (fun K hK => ?_); go_step; refine hK _ _ hS9 ?_; clear hK K)
        refine mix_nil ?_
        go_wp2
        go_ret2
        exact ⟨ret_str (by unfold bytesOf head hd; rw [str_app]; congr 2 <;> first | done | (simp; done) | (simp; omega) | omega), O1.trans hS9.2.2⟩
    · go_step
      refine (two_any _ _ (by omega) (by omega)).mono ?_
      rintro x w4 ⟨rfl, O4⟩
      have OA := OW.trans O4
      have hS4 := Held.mk' lt1 cq cd OA
      refine hK _ _ hS4 ?_
      clear hK K C
      have C := fun x y => conv2' w4 _ rfl x y
      refine anyH_mix [(6, false), (7, false), (11, false), (14, false), (15, false), (16, false)] (by kernel_rfl) (by kernel_rfl) (fun d v c a w h => by cases d <;> exact h) hS4 ?_
      simp only [mixOps, List.filterMap_cons, List.filterMap_nil, List.getElem?_toArray, List.getElem?_cons_succ, List.getElem?_cons_zero, Option.map_some]
      refine mix_op rfl (fun K hK => ?_)
      go_step
      have hS9 := Held.mk' lt1 cq cd (OA.alloc (.cells #[.int .u8 192, .int .u8 (q / 65536)] 5))
      refine hK _ _ hS9 ?_
      clear hK K
      repeat (refine mix_op rfl (fun K hK => ?_); go_step; refine hK _ _ hS9 ?_; clear hK K)
      refine mix_nil ?_
      go_wp2
      go_ret2
      exact ⟨ret_str (by unfold bytesOf head hd; rw [str_app]; congr 2 <;> first | done | (simp; done) | (simp; omega) | omega), O1.trans hS9.2.2⟩
end Go.Proofs.Ytdpknandacoibaa

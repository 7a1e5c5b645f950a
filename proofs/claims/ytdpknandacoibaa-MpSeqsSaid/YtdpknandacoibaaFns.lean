/- Contracts of chapter 8's functions. -/
import Derived.Test.YtdpknandacoibaaRows
import Derived.Test.YtdpknandacoibaaBase
import Derived.Test.YtdpknandacoibaaMask
import Derived.Test.YtdpknandacoibaaRegion4
import Derived.Test.YtdpknandacoibaaPlain
import Derived.Deep.Cut
import Derived.Deep.DeepCutAuto
import Derived.StillTactics
import Derived.Lib.Hide
namespace Go.Proofs.Ytdpknandacoibaa
open Go.RowKit
open Plain

theorem mixed : Try.prog.follows .mixedOrders = true := by kernel_rfl
theorem num_any (n : Int) (w : World) : Calls Try.prog 11 #[.int .i64 n] w fun e w' => e = .returned (.int .i64 n) ∧ w = w' := by
  go_enter Try.func11, Try.ntmps11
  go_wp2
  go_ret
  exact ⟨rfl, rfl⟩
theorem ring13 (b : Bool) (w : World) : Calls Try.prog 13 #[.bool b] w fun e w' => e = .returned (.int .i64 (ring b)) ∧ w' = w := by
  cases b
  · go_enter Try.func13, Try.ntmps13
    go_wp2
    go_ret
    exact ⟨rfl, rfl⟩
  · go_enter Try.func13, Try.ntmps13
    go_wp2
    go_ret
    exact ⟨rfl, rfl⟩
theorem ring14 (b : Bool) (w : World) : Calls Try.prog 14 #[.bool b] w fun e w' => e = .returned (.int .i64 (ring b)) ∧ w' = w := by
  cases b
  · go_enter Try.func14, Try.ntmps14
    go_wp2
    go_ret
    exact ⟨rfl, rfl⟩
  · go_enter Try.func14, Try.ntmps14
    go_wp2
    go_ret
    exact ⟨rfl, rfl⟩

/-- bytes of a block that was just laid, as a string. -/
theorem conv2 (w : World) (g : Nat) (hg : w.heap.size = g) (x y : Int) : (convert 36 9 (.slice (some ⟨g, 0, none⟩) 2 2)).run Try.prog (w.alloc (.cells #[.int .u8 x, .int .u8 y] 5)).drew = .ok (.string (strOfNums [x, y])) (w.alloc (.cells #[.int .u8 x, .int .u8 y] 5)).drew := by
  subst hg
  refine run_convert_bytes_arg _ 36 5 Try.underlying36 (by kernel_rfl) _ 0 _ _ [x, y] rfl (fun j hj => ?_) 9 Try.underlying9
  have hc : (w.alloc (.cells #[.int .u8 x, .int .u8 y] 5)).drew.heap[w.heap.size]? = some (.cells #[.int .u8 x, .int .u8 y] 5) := heap_alloc_new' w _
  rw [cell_of hc]
  have hj' : j < 2 := hj
  rcases (show j = 0 ∨ j = 1 by omega) with rfl | rfl <;> rfl
theorem conv2' (w : World) (g : Nat) (hg : w.heap.size = g) (x y : Int) : (convert 36 9 (.slice (some ⟨g, 0, none⟩) 2 2)).run Try.prog (w.alloc (.cells #[.int .u8 x, .int .u8 y] 5)) = .ok (.string (strOfNums [x, y])) (w.alloc (.cells #[.int .u8 x, .int .u8 y] 5)) := by
  subst hg
  refine run_convert_bytes_arg _ 36 5 Try.underlying36 (by kernel_rfl) _ 0 _ _ [x, y] rfl (fun j hj => ?_) 9 Try.underlying9
  rw [cell_of (heap_alloc_new' w _)]
  have hj' : j < 2 := hj
  rcases (show j = 0 ∨ j = 1 by omega) with rfl | rfl <;> rfl
theorem conv4 (w : World) (g : Nat) (hg : w.heap.size = g) (x y z t : Int) : (convert 36 9 (.slice (some ⟨g, 0, none⟩) 4 4)).run Try.prog (w.alloc (.cells #[.int .u8 x, .int .u8 y, .int .u8 z, .int .u8 t] 5)).drew = .ok (.string (strOfNums [x, y, z, t])) (w.alloc (.cells #[.int .u8 x, .int .u8 y, .int .u8 z, .int .u8 t] 5)).drew := by
  subst hg
  refine run_convert_bytes_arg _ 36 5 Try.underlying36 (by kernel_rfl) _ 0 _ _ [x, y, z, t] rfl (fun j hj => ?_) 9 Try.underlying9
  have hc : (w.alloc (.cells #[.int .u8 x, .int .u8 y, .int .u8 z, .int .u8 t] 5)).drew.heap[w.heap.size]? = some (.cells #[.int .u8 x, .int .u8 y, .int .u8 z, .int .u8 t] 5) := heap_alloc_new' w _
  rw [cell_of hc]
  have hj' : j < 4 := hj
  rcases (show j = 0 ∨ j = 1 ∨ j = 2 ∨ j = 3 by omega) with rfl | rfl | rfl | rfl <;> rfl

theorem ret_str {a b : ByteArray} {n : Int} (h : a = b) : Ending.returned (.tuple #[.string a, .int .i64 n]) = .returned (.tuple #[.string b, .int .i64 n]) := by rw [h]
theorem o128 : bits .or .i64 0 128 = 128 := by decide
theorem o64 : bits .or .i64 0 64 = 64 := by decide
theorem o192 : bits .or .i64 128 64 = 192 := by decide

set_option maxRecDepth 100000 in
set_option maxHeartbeats 2000000 in
theorem put_short (b e : Bool) (q : Int) (d : ByteArray) (w : World) (h1 : 0 ≤ q) (h2 : q < 4096) (h3 : d.size ≤ 2048) :
    Calls Try.prog 7 #[.agg #[.bool b, .bool e, .int .i64 q, .string d], .bool true] w fun x w' => x = .returned (.tuple #[.string (bytesOf b e q d true), .int .i64 0]) ∧ Only [] w w' := by
  have d1 : decide (q < 0) = false := by simp; omega
  have d2 : decide (4096 ≤ q) = false := by simp; omega
  have d3 : decide (2048 < (d.size : Int)) = false := by simp; omega
  have ds : d.size ≤ 9223372036854775000 := by omega
  have HO : ∀ X Y, Only [] w ((w.alloc X).alloc Y).drew := fun X Y => (((Only.refl [] w).alloc X).alloc Y).drew
  have HOH := Lib.hid HO
  clear HO
  have A0 : bits .or .i64 0 (q / 256) = q / 256 := by rw [or_add 6 0 (q / 256) (by omega) rfl (by omega) (by simp; omega) (by omega) (by omega)]; omega
  have A1 : bits .or .i64 64 (q / 256) = 64 + q / 256 := or_add 6 64 (q / 256) (by omega) rfl (by omega) (by simp; omega) (by omega) (by omega)
  have A2 : bits .or .i64 128 (q / 256) = 128 + q / 256 := or_add 6 128 (q / 256) (by omega) rfl (by omega) (by simp; omega) (by omega) (by omega)
  have A3 : bits .or .i64 192 (q / 256) = 192 + q / 256 := or_add 6 192 (q / 256) (by omega) rfl (by omega) (by simp; omega) (by omega) (by omega)
  have C := fun X x y => conv2 (w.alloc X) (w.heap.size + 1) (by simp) x y
  have B1 := o128
  have B2 := o64
  have B3 := o192
  have SZ : ∀ l : List Int, (strOfNums l).size = l.length := strOfNums_size
  cases b <;> cases e
  all_goals
    go_enter Try.func7, Try.ntmps7
    go_wp2_with fail
    refine wp_region_reads mixed (by kernel_rfl) ?_
    repeat (refine wpStill_op rfl rfl (fun K hK => ?_); go_step; refine hK _ ?_; clear hK K)
    still_call (ring13 _ _)
    rw [show ring true = 4096 from rfl]
    repeat (refine wpStill_op rfl rfl (fun K hK => ?_); go_step; refine hK _ ?_; clear hK K)
    refine wpStill_nil ?_
    go_wp2
    go_ret2
    exact ⟨ret_str (by unfold bytesOf head hd; congr 2 <;> first | done | (simp; done) | (simp; omega) | omega), HOH.out _ _⟩
set_option maxRecDepth 100000 in
set_option maxHeartbeats 2000000 in
theorem put_long (b e : Bool) (q : Int) (d : ByteArray) (w : World) (h1 : 0 ≤ q) (h2 : q < 16777216) (h3 : d.size ≤ 2048) :
    Calls Try.prog 7 #[.agg #[.bool b, .bool e, .int .i64 q, .string d], .bool false] w fun x w' => x = .returned (.tuple #[.string (bytesOf b e q d false), .int .i64 0]) ∧ Only [] w w' := by
  have d1 : decide (q < 0) = false := by simp; omega
  have d2 : decide (16777216 ≤ q) = false := by simp; omega
  have d3 : decide (2048 < (d.size : Int)) = false := by simp; omega
  have ds : d.size ≤ 9223372036854775000 := by omega
  have HO : ∀ X Y, Only [] w ((w.alloc X).alloc Y).drew := fun X Y => (((Only.refl [] w).alloc X).alloc Y).drew
  have HOH := Lib.hid HO
  clear HO
  have C := fun X x y z t => conv4 (w.alloc X) (w.heap.size + 1) (by simp) x y z t
  have B1 := o128
  have B2 := o64
  have B3 := o192
  have SZ : ∀ l : List Int, (strOfNums l).size = l.length := strOfNums_size
  cases b <;> cases e
  all_goals
    go_enter Try.func7, Try.ntmps7
    go_wp2_with fail
    refine wp_region_reads mixed (by kernel_rfl) ?_
    repeat (refine wpStill_op rfl rfl (fun K hK => ?_); go_step; refine hK _ ?_; clear hK K)
    still_call (ring13 _ _)
    rw [show ring false = 16777216 from rfl]
    repeat (refine wpStill_op rfl rfl (fun K hK => ?_); go_step; refine hK _ ?_; clear hK K)
    refine wpStill_nil ?_
    go_wp2
    go_ret2
    exact ⟨ret_str (by unfold bytesOf head hd; congr 2 <;> first | done | (simp; done) | (simp; omega) | omega), HOH.out _ _⟩
end Go.Proofs.Ytdpknandacoibaa

/- Contracts of mphead.Put where the fragment may not be; of the reference's Mp. -/
import Derived.Test.YtdpknandacoibaaFns
import Derived.Deep.RegionHeld3
namespace Go.Proofs.Ytdpknandacoibaa
open Go.RowKit
open Plain

theorem still13 (b : Bool) (R : Int) (h : ring b = R) (w : World) : Calls Try.prog 13 #[.bool b] w fun e w' => e = .returned (.int .i64 R) ∧ w' = w := by rw [← h]; exact ring13 b w
theorem still14 (b : Bool) (R : Int) (h : ring b = R) (w : World) : Calls Try.prog 14 #[.bool b] w fun e w' => e = .returned (.int .i64 R) ∧ w' = w := by rw [← h]; exact ring14 b w

set_option maxRecDepth 100000 in
set_option maxHeartbeats 2000000 in
theorem put_bad (b e : Bool) (q : Int) (d : ByteArray) (short : Bool) (w : World) (h : q < 0 ∨ ring short ≤ q ∨ 2048 < d.size) :
    Calls Try.prog 7 #[.agg #[.bool b, .bool e, .int .i64 q, .string d], .bool short] w fun x w' => x = .returned (.tuple #[.string ⟨#[]⟩, .int .i64 801]) ∧ Only [] w w' := by
  have HO := Lib.hid (fun X => ((Only.refl [] w).alloc X).drew)
  generalize hR : ring short = R at h
  have HR := Lib.hid hR
  clear hR
  by_cases h1 : q < 0
  · have d1 : decide (q < 0) = true := by simpa using h1
    clear h
    go_enter Try.func7, Try.ntmps7
    go_wp2_with fail
    refine wp_region_reads mixed (by kernel_rfl) ?_
    (refine wpStill_op rfl rfl (fun K hK => ?_); go_step; refine hK _ ?_; clear hK K)
    (refine wpStill_op rfl rfl (fun K hK => ?_); go_step; refine hK _ ?_; clear hK K)
    (refine wpStill_op rfl rfl (fun K hK => ?_); go_step; refine hK _ ?_; clear hK K)
    (refine wpStill_op rfl rfl (fun K hK => ?_); go_step; refine hK _ ?_; clear hK K)
    refine wpStill_off rfl ?_
    refine wpStill_off rfl ?_
    refine wpStill_off rfl ?_
    refine wpStill_off rfl ?_
    refine wpStill_off rfl ?_
    (refine wpStill_op rfl rfl (fun K hK => ?_); go_step; refine hK _ ?_; clear hK K)
    (refine wpStill_op rfl rfl (fun K hK => ?_); go_step; refine hK _ ?_; clear hK K)
    refine wpStill_off rfl ?_
    refine wpStill_off rfl ?_
    refine wpStill_off rfl ?_
    refine wpStill_off rfl ?_
    (refine wpStill_op rfl rfl (fun K hK => ?_); go_step; refine hK _ ?_; clear hK K)
    refine wpStill_nil ?_
    go_wp2
    go_ret2
    exact ⟨rfl, HO.out _⟩
  have d1 : decide (q < 0) = false := by simpa using h1
  by_cases h2 : R ≤ q
  · have d2 : decide (R ≤ q) = true := by simpa using h2
    clear h
    go_enter Try.func7, Try.ntmps7
    go_wp2_with fail
    refine wp_region_reads mixed (by kernel_rfl) ?_
    repeat (refine wpStill_op rfl rfl (fun K hK => ?_); go_step; refine hK _ ?_; clear hK K)
    still_call (still13 _ _ HR.out _)
    (refine wpStill_op rfl rfl (fun K hK => ?_); go_step; refine hK _ ?_; clear hK K)
    (refine wpStill_op rfl rfl (fun K hK => ?_); go_step; refine hK _ ?_; clear hK K)
    (refine wpStill_op rfl rfl (fun K hK => ?_); go_step; refine hK _ ?_; clear hK K)
    refine wpStill_off rfl ?_
    refine wpStill_off rfl ?_
    refine wpStill_off rfl ?_
    refine wpStill_off rfl ?_
    (refine wpStill_op rfl rfl (fun K hK => ?_); go_step; refine hK _ ?_; clear hK K)
    refine wpStill_nil ?_
    go_wp2
    go_ret2
    exact ⟨rfl, HO.out _⟩
  have d2 : decide (R ≤ q) = false := by simpa using h2
  have d3 : decide (2048 < (d.size : Int)) = true := by simp; omega
  clear h
  go_enter Try.func7, Try.ntmps7
  go_wp2_with fail
  refine wp_region_reads mixed (by kernel_rfl) ?_
  repeat (refine wpStill_op rfl rfl (fun K hK => ?_); go_step; refine hK _ ?_; clear hK K)
  still_call (still13 _ _ HR.out _)
  repeat (refine wpStill_op rfl rfl (fun K hK => ?_); go_step; refine hK _ ?_; clear hK K)
  refine wpStill_nil ?_
  go_wp2
  go_ret2
  exact ⟨rfl, HO.out _⟩

set_option maxRecDepth 100000 in
set_option maxHeartbeats 2000000 in
theorem mp_bad (b e : Bool) (q : Int) (d : ByteArray) (short : Bool) (w : World) (h : q < 0 ∨ ring short ≤ q ∨ 2048 < d.size) :
    Calls Try.prog 8 #[.agg #[.bool b, .bool e, .int .i64 q, .string d], .bool short] w fun x w' => x = .returned (.tuple #[.string ⟨#[]⟩, .int .i64 801]) ∧ Only [] w w' := by
  have HO := Lib.hid (fun X => ((Only.refl [] w).alloc X).drew)
  generalize hR : ring short = R at h
  have HR := Lib.hid hR
  clear hR
  by_cases h1 : q < 0
  · have d1 : decide (q < 0) = true := by simpa using h1
    clear h
    go_enter Try.func8, Try.ntmps8
    go_wp2_with fail
    refine wp_region_reads mixed (by kernel_rfl) ?_
    (refine wpStill_op rfl rfl (fun K hK => ?_); go_step; refine hK _ ?_; clear hK K)
    (refine wpStill_op rfl rfl (fun K hK => ?_); go_step; refine hK _ ?_; clear hK K)
    (refine wpStill_op rfl rfl (fun K hK => ?_); go_step; refine hK _ ?_; clear hK K)
    (refine wpStill_op rfl rfl (fun K hK => ?_); go_step; refine hK _ ?_; clear hK K)
    refine wpStill_off rfl ?_
    refine wpStill_off rfl ?_
    refine wpStill_off rfl ?_
    refine wpStill_off rfl ?_
    refine wpStill_off rfl ?_
    (refine wpStill_op rfl rfl (fun K hK => ?_); go_step; refine hK _ ?_; clear hK K)
    (refine wpStill_op rfl rfl (fun K hK => ?_); go_step; refine hK _ ?_; clear hK K)
    refine wpStill_off rfl ?_
    refine wpStill_off rfl ?_
    refine wpStill_off rfl ?_
    refine wpStill_off rfl ?_
    (refine wpStill_op rfl rfl (fun K hK => ?_); go_step; refine hK _ ?_; clear hK K)
    refine wpStill_nil ?_
    go_wp2
    go_ret2
    exact ⟨rfl, HO.out _⟩
  have d1 : decide (q < 0) = false := by simpa using h1
  by_cases h2 : R ≤ q
  · have d2 : decide (R ≤ q) = true := by simpa using h2
    clear h
    go_enter Try.func8, Try.ntmps8
    go_wp2_with fail
    refine wp_region_reads mixed (by kernel_rfl) ?_
    repeat (refine wpStill_op rfl rfl (fun K hK => ?_); go_step; refine hK _ ?_; clear hK K)
    still_call (still14 _ _ HR.out _)
    (refine wpStill_op rfl rfl (fun K hK => ?_); go_step; refine hK _ ?_; clear hK K)
    (refine wpStill_op rfl rfl (fun K hK => ?_); go_step; refine hK _ ?_; clear hK K)
    (refine wpStill_op rfl rfl (fun K hK => ?_); go_step; refine hK _ ?_; clear hK K)
    refine wpStill_off rfl ?_
    refine wpStill_off rfl ?_
    refine wpStill_off rfl ?_
    refine wpStill_off rfl ?_
    (refine wpStill_op rfl rfl (fun K hK => ?_); go_step; refine hK _ ?_; clear hK K)
    refine wpStill_nil ?_
    go_wp2
    go_ret2
    exact ⟨rfl, HO.out _⟩
  have d2 : decide (R ≤ q) = false := by simpa using h2
  have d3 : decide (2048 < (d.size : Int)) = true := by simp; omega
  clear h
  go_enter Try.func8, Try.ntmps8
  go_wp2_with fail
  refine wp_region_reads mixed (by kernel_rfl) ?_
  repeat (refine wpStill_op rfl rfl (fun K hK => ?_); go_step; refine hK _ ?_; clear hK K)
  still_call (still14 _ _ HR.out _)
  repeat (refine wpStill_op rfl rfl (fun K hK => ?_); go_step; refine hK _ ?_; clear hK K)
  refine wpStill_nil ?_
  go_wp2
  go_ret2
  exact ⟨rfl, HO.out _⟩

theorem two_any (x : Int) (w : World) (h0 : 0 ≤ x) (h1 : x ≤ 16777215) : Calls Try.prog 15 #[.int .i64 x] w fun e w' => e = .returned (.string (strOfNums [x / 256 % 256, x % 256])) ∧ Only [] w w' := by
  have A1 := and_255 x
  have A2 := and_255 (x / 256)
  have C := fun x y => conv2' w _ rfl x y
  go_enter Try.func15, Try.ntmps15
  go_wp2
  go_ret
  exact ⟨by simp, (Only.refl _ _).alloc _⟩
end Go.Proofs.Ytdpknandacoibaa

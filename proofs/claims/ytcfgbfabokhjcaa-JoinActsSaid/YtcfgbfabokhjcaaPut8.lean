/- The contract of layer 8's Put: its verdict. (After chapter 8's own text.) -/
import Derived.Test.YtcfgbfabokhjcaaFns2
import Derived.Laws.BytesArg
namespace Go.Proofs.Ytcfgbfabokhjcaa
namespace Plain
open Go
def hd (b e : Bool) : Int := (if b then 128 else 0) + (if e then 64 else 0)

theorem or_add (k : Nat) (x y : Int) (hx : 0 ≤ x) (hd : x % (2:Int) ^ k = 0) (hy : 0 ≤ y) (hlt : y < (2:Int) ^ k) (hx63 : x < 4611686018427387904) (hk : k ≤ 62) : bits .or .i64 x y = x + y := by
  obtain ⟨m, rfl⟩ := Int.eq_ofNat_of_zero_le hx
  obtain ⟨n, rfl⟩ := Int.eq_ofNat_of_zero_le hy
  have hp : ((2 ^ k : Nat) : Int) = (2:Int) ^ k := by simp
  rw [← hp] at hd hlt
  have hn : n < 2 ^ k := by omega
  have hm : m % 2 ^ k = 0 := by
    have : ((m % 2 ^ k : Nat) : Int) = 0 := by rw [Int.natCast_emod]; exact hd
    omega
  have h62 : 2 ^ k ≤ 2 ^ 62 := Nat.pow_le_pow_right (by omega) hk
  have hq : m = 2 ^ k * (m / 2 ^ k) := by have := Nat.div_add_mod m (2 ^ k); omega
  have hor : m ||| n = m + n := by
    rw [hq, ← Nat.two_pow_add_eq_or_of_lt hn]
  unfold bits
  have e1 : (BitVec.ofInt IntKind.i64.bits (m : Int)).toNat = m := by
    rw [BitVec.ofInt_natCast, BitVec.toNat_ofNat]; apply Nat.mod_eq_of_lt; show m < 2 ^ 64; omega
  have e2 : (BitVec.ofInt IntKind.i64.bits (n : Int)).toNat = n := by
    rw [BitVec.ofInt_natCast, BitVec.toNat_ofNat]; apply Nat.mod_eq_of_lt; show n < 2 ^ 64; omega
  show IntKind.i64.wrap _ = _
  have e3 : ((BitVec.ofInt IntKind.i64.bits (m : Int)) ||| (BitVec.ofInt IntKind.i64.bits (n : Int))).toNat = m + n := by
    rw [BitVec.toNat_or, e1, e2, hor]
  rw [e3]
  have := IntWalk.i64_in ((m + n : Nat) : Int) (by omega)
  rw [this]; omega

/-- a head's bytes. -/
def head (b e : Bool) (q : Int) (short : Bool) : List Int := if short then [hd b e + q / 256, q % 256] else [hd b e, q / 65536, q / 256 % 256, q % 256]
def bytesOf (b e : Bool) (q : Int) (d : ByteArray) (short : Bool) : ByteArray := strOfNums (head b e q short) ++ d

end Plain
open Go.RowKit
open Plain
/-- bytes of a block that was just laid, as a string. -/
theorem conv2 (w : World) (g : Nat) (hg : w.heap.size = g) (x y : Int) : (convert 86 9 (.slice (some ⟨g, 0, none⟩) 2 2)).run Try.prog (w.alloc (.cells #[.int .u8 x, .int .u8 y] 5)).drew = .ok (.string (strOfNums [x, y])) (w.alloc (.cells #[.int .u8 x, .int .u8 y] 5)).drew := by
  subst hg
  refine run_convert_bytes_arg _ 86 5 Try.underlying86 (by kernel_rfl) _ 0 _ _ [x, y] rfl (fun j hj => ?_) 9 Try.underlying9
  have hc : (w.alloc (.cells #[.int .u8 x, .int .u8 y] 5)).drew.heap[w.heap.size]? = some (.cells #[.int .u8 x, .int .u8 y] 5) := heap_alloc_new' w _
  rw [cell_of hc]
  have hj' : j < 2 := hj
  rcases (show j = 0 ∨ j = 1 by omega) with rfl | rfl <;> rfl
theorem conv2' (w : World) (g : Nat) (hg : w.heap.size = g) (x y : Int) : (convert 86 9 (.slice (some ⟨g, 0, none⟩) 2 2)).run Try.prog (w.alloc (.cells #[.int .u8 x, .int .u8 y] 5)) = .ok (.string (strOfNums [x, y])) (w.alloc (.cells #[.int .u8 x, .int .u8 y] 5)) := by
  subst hg
  refine run_convert_bytes_arg _ 86 5 Try.underlying86 (by kernel_rfl) _ 0 _ _ [x, y] rfl (fun j hj => ?_) 9 Try.underlying9
  rw [cell_of (heap_alloc_new' w _)]
  have hj' : j < 2 := hj
  rcases (show j = 0 ∨ j = 1 by omega) with rfl | rfl <;> rfl
theorem conv4 (w : World) (g : Nat) (hg : w.heap.size = g) (x y z t : Int) : (convert 86 9 (.slice (some ⟨g, 0, none⟩) 4 4)).run Try.prog (w.alloc (.cells #[.int .u8 x, .int .u8 y, .int .u8 z, .int .u8 t] 5)).drew = .ok (.string (strOfNums [x, y, z, t])) (w.alloc (.cells #[.int .u8 x, .int .u8 y, .int .u8 z, .int .u8 t] 5)).drew := by
  subst hg
  refine run_convert_bytes_arg _ 86 5 Try.underlying86 (by kernel_rfl) _ 0 _ _ [x, y, z, t] rfl (fun j hj => ?_) 9 Try.underlying9
  have hc : (w.alloc (.cells #[.int .u8 x, .int .u8 y, .int .u8 z, .int .u8 t] 5)).drew.heap[w.heap.size]? = some (.cells #[.int .u8 x, .int .u8 y, .int .u8 z, .int .u8 t] 5) := heap_alloc_new' w _
  rw [cell_of hc]
  have hj' : j < 4 := hj
  rcases (show j = 0 ∨ j = 1 ∨ j = 2 ∨ j = 3 by omega) with rfl | rfl | rfl | rfl <;> rfl

theorem ret_str {a b : ByteArray} {n : Int} (h : a = b) : Ending.returned (.tuple #[.string a, .int .i64 n]) = .returned (.tuple #[.string b, .int .i64 n]) := by rw [h]
theorem o128 : bits .or .i64 0 128 = 128 := by decide
theorem o64 : bits .or .i64 0 64 = 64 := by decide
theorem o192 : bits .or .i64 128 64 = 192 := by decide

set_option maxRecDepth 100000 in
set_option maxHeartbeats 2000000 in
theorem put_short (b e : Bool) (q : Int) (d : ByteArray) (w : World) (h1 : 0 ≤ q) (h2 : q < 4096) (h3 : d.size ≤ 2048) :
    Calls Try.prog 32 #[.agg #[.bool b, .bool e, .int .i64 q, .string d], .bool true] w fun x w' => x = .returned (.tuple #[.string (bytesOf b e q d true), .int .i64 0]) ∧ Only [] w w' := by
  have d1 : decide (q < 0) = false := by simp; omega
  have d2 : decide (4096 ≤ q) = false := by simp; omega
  have d3 : decide (2048 < (d.size : Int)) = false := by simp; omega
  have ds : d.size ≤ 9223372036854775000 := by omega
  have HO : ∀ X Y, Only [] w ((w.alloc X).alloc Y).drew := fun X Y => (((Only.refl [] w).alloc X).alloc Y).drew
  have HOH := Lib.hid HO
  clear HO
  have A0 : bits .or .i64 0 (q / 256) = q / 256 := by rw [or_add 6 0 (q / 256) (by omega) rfl (by omega) (by simp; omega) (by omega) (by omega)]; omega
  have A1 : bits .or .i64 64 (q / 256) = 64 + q / 256 := or_add 6 64 (q / 256) (by omega) rfl (by omega) (by simp; omega) (by omega) (by omega)
  have A2 : bits .or .i64 128 (q / 256) = 128 + q / 256 := or_add 6 128 (q / 256) (by omega) rfl (by omega) (by simp; omega) (by omega) (by omega)
  have A3 : bits .or .i64 192 (q / 256) = 192 + q / 256 := or_add 6 192 (q / 256) (by omega) rfl (by omega) (by simp; omega) (by omega) (by omega)
  have C := fun X x y => conv2 (w.alloc X) (w.heap.size + 1) (by simp) x y
  have B1 := o128
  have B2 := o64
  have B3 := o192
  have SZ : ∀ l : List Int, (strOfNums l).size = l.length := strOfNums_size
  cases b <;> cases e
  all_goals
    go_enter Try.func32, Try.ntmps32
    go_wp2_with fail
    refine wp_region_reads mixed (by kernel_rfl) ?_
    repeat (refine wpStill_op rfl rfl (fun K hK => ?_); go_step; refine hK _ ?_; clear hK K)
    still_call (ring_any _ _)
    rw [show ring true = 4096 from rfl]
    repeat (refine wpStill_op rfl rfl (fun K hK => ?_); go_step; refine hK _ ?_; clear hK K)
    refine wpStill_nil ?_
    go_wp2
    go_ret2
    exact ⟨ret_str (by unfold bytesOf head hd; congr 2 <;> first | done | (simp; done) | (simp; omega) | omega), HOH.out _ _⟩
set_option maxRecDepth 100000 in
set_option maxHeartbeats 2000000 in
theorem put_long (b e : Bool) (q : Int) (d : ByteArray) (w : World) (h1 : 0 ≤ q) (h2 : q < 16777216) (h3 : d.size ≤ 2048) :
    Calls Try.prog 32 #[.agg #[.bool b, .bool e, .int .i64 q, .string d], .bool false] w fun x w' => x = .returned (.tuple #[.string (bytesOf b e q d false), .int .i64 0]) ∧ Only [] w w' := by
  have d1 : decide (q < 0) = false := by simp; omega
  have d2 : decide (16777216 ≤ q) = false := by simp; omega
  have d3 : decide (2048 < (d.size : Int)) = false := by simp; omega
  have ds : d.size ≤ 9223372036854775000 := by omega
  have HO : ∀ X Y, Only [] w ((w.alloc X).alloc Y).drew := fun X Y => (((Only.refl [] w).alloc X).alloc Y).drew
  have HOH := Lib.hid HO
  clear HO
  have C := fun X x y z t => conv4 (w.alloc X) (w.heap.size + 1) (by simp) x y z t
  have B1 := o128
  have B2 := o64
  have B3 := o192
  have SZ : ∀ l : List Int, (strOfNums l).size = l.length := strOfNums_size
  cases b <;> cases e
  all_goals
    go_enter Try.func32, Try.ntmps32
    go_wp2_with fail
    refine wp_region_reads mixed (by kernel_rfl) ?_
    repeat (refine wpStill_op rfl rfl (fun K hK => ?_); go_step; refine hK _ ?_; clear hK K)
    still_call (ring_any _ _)
    rw [show ring false = 16777216 from rfl]
    repeat (refine wpStill_op rfl rfl (fun K hK => ?_); go_step; refine hK _ ?_; clear hK K)
    refine wpStill_nil ?_
    go_wp2
    go_ret2
    exact ⟨ret_str (by unfold bytesOf head hd; congr 2 <;> first | done | (simp; done) | (simp; omega) | omega), HOH.out _ _⟩
theorem stillr (b : Bool) (R : Int) (h : ring b = R) (w : World) : Calls Try.prog 30 #[.bool b] w fun e w' => e = .returned (.int .i64 R) ∧ w' = w := by rw [← h]; exact ring_any b w
set_option maxRecDepth 100000 in
set_option maxHeartbeats 2000000 in
theorem put_bad (b e : Bool) (q : Int) (d : ByteArray) (short : Bool) (w : World) (h : q < 0 ∨ ring short ≤ q ∨ 2048 < d.size) :
    Calls Try.prog 32 #[.agg #[.bool b, .bool e, .int .i64 q, .string d], .bool short] w fun x w' => x = .returned (.tuple #[.string ⟨#[]⟩, .int .i64 801]) ∧ Only [] w w' := by
  have HO := Lib.hid (fun X => ((Only.refl [] w).alloc X).drew)
  generalize hR : ring short = R at h
  have HR := Lib.hid hR
  clear hR
  by_cases h1 : q < 0
  · have d1 : decide (q < 0) = true := by simpa using h1
    clear h
    go_enter Try.func32, Try.ntmps32
    go_wp2_with fail
    refine wp_region_reads mixed (by kernel_rfl) ?_
    (refine wpStill_op rfl rfl (fun K hK => ?_); go_step; refine hK _ ?_; clear hK K)
    (refine wpStill_op rfl rfl (fun K hK => ?_); go_step; refine hK _ ?_; clear hK K)
    (refine wpStill_op rfl rfl (fun K hK => ?_); go_step; refine hK _ ?_; clear hK K)
    (refine wpStill_op rfl rfl (fun K hK => ?_); go_step; refine hK _ ?_; clear hK K)
    ((with_reducible refine wpStill_off ?_ ?_); (focus kernel_rfl))
    ((with_reducible refine wpStill_off ?_ ?_); (focus kernel_rfl))
    ((with_reducible refine wpStill_off ?_ ?_); (focus kernel_rfl))
    ((with_reducible refine wpStill_off ?_ ?_); (focus kernel_rfl))
    ((with_reducible refine wpStill_off ?_ ?_); (focus kernel_rfl))
    (refine wpStill_op rfl rfl (fun K hK => ?_); go_step; refine hK _ ?_; clear hK K)
    (refine wpStill_op rfl rfl (fun K hK => ?_); go_step; refine hK _ ?_; clear hK K)
    ((with_reducible refine wpStill_off ?_ ?_); (focus kernel_rfl))
    ((with_reducible refine wpStill_off ?_ ?_); (focus kernel_rfl))
    ((with_reducible refine wpStill_off ?_ ?_); (focus kernel_rfl))
    ((with_reducible refine wpStill_off ?_ ?_); (focus kernel_rfl))
    (refine wpStill_op rfl rfl (fun K hK => ?_); go_step; refine hK _ ?_; clear hK K)
    refine wpStill_nil ?_
    go_wp2
    go_ret2
    exact ⟨rfl, HO.out _⟩
  have d1 : decide (q < 0) = false := by simpa using h1
  by_cases h2 : R ≤ q
  · have d2 : decide (R ≤ q) = true := by simpa using h2
    clear h
    go_enter Try.func32, Try.ntmps32
    go_wp2_with fail
    refine wp_region_reads mixed (by kernel_rfl) ?_
    repeat (refine wpStill_op rfl rfl (fun K hK => ?_); go_step; refine hK _ ?_; clear hK K)
    still_call (stillr _ _ HR.out _)
    (refine wpStill_op rfl rfl (fun K hK => ?_); go_step; refine hK _ ?_; clear hK K)
    (refine wpStill_op rfl rfl (fun K hK => ?_); go_step; refine hK _ ?_; clear hK K)
    (refine wpStill_op rfl rfl (fun K hK => ?_); go_step; refine hK _ ?_; clear hK K)
    ((with_reducible refine wpStill_off ?_ ?_); (focus kernel_rfl))
    ((with_reducible refine wpStill_off ?_ ?_); (focus kernel_rfl))
    ((with_reducible refine wpStill_off ?_ ?_); (focus kernel_rfl))
    ((with_reducible refine wpStill_off ?_ ?_); (focus kernel_rfl))
    (refine wpStill_op rfl rfl (fun K hK => ?_); go_step; refine hK _ ?_; clear hK K)
    refine wpStill_nil ?_
    go_wp2
    go_ret2
    exact ⟨rfl, HO.out _⟩
  have d2 : decide (R ≤ q) = false := by simpa using h2
  have d3 : decide (2048 < (d.size : Int)) = true := by simp; omega
  clear h
  go_enter Try.func32, Try.ntmps32
  go_wp2_with fail
  refine wp_region_reads mixed (by kernel_rfl) ?_
  repeat (refine wpStill_op rfl rfl (fun K hK => ?_); go_step; refine hK _ ?_; clear hK K)
  still_call (stillr _ _ HR.out _)
  repeat (refine wpStill_op rfl rfl (fun K hK => ?_); go_step; refine hK _ ?_; clear hK K)
  refine wpStill_nil ?_
  go_wp2
  go_ret2
  exact ⟨rfl, HO.out _⟩


/-- a fragment in bytes: may it be? -/
theorem put8 (f : Fr) (short : Bool) (w : World) :
    Calls Try.prog 32 #[.agg #[.bool f.b, .bool f.e, .int .i64 f.q, .string f.d], .bool short] w fun x w' => ∃ s, x = .returned (.tuple #[.string s, .int .i64 (if mayF short f = true then 0 else 801)]) ∧ Only [] w w' := by
  obtain ⟨b, e, q, d⟩ := f
  by_cases h : mayF short ⟨b, e, q, d⟩ = true
  · rw [if_pos h]
    have h' : 0 ≤ q ∧ q < ring short ∧ d.size ≤ 2048 := by simpa [mayF] using h
    obtain ⟨h0, h1, h2⟩ := h'
    cases short
    · exact (put_long b e q d w h0 h1 h2).mono fun x w' ⟨a, c⟩ => ⟨_, a, c⟩
    · exact (put_short b e q d w h0 h1 h2).mono fun x w' ⟨a, c⟩ => ⟨_, a, c⟩
  · rw [if_neg h]
    have h' : q < 0 ∨ ring short ≤ q ∨ 2048 < d.size := by
      have : ¬ (0 ≤ q ∧ q < ring short ∧ d.size ≤ 2048) := fun e => h (by simpa [mayF] using e)
      omega
    exact (put_bad b e q d short w h').mono fun x w' ⟨a, c⟩ => ⟨_, a, c⟩
end Go.Proofs.Ytcfgbfabokhjcaa

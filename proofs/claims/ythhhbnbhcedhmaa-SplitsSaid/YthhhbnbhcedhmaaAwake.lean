/- The contract of awake. -/
import Derived.Test.YthhhbnbhcedhmaaCut
import Derived.Test.YthhhbnbhcedhmaaRef
import Derived.Test.YthhhbnbhcedhmaaSame
import Derived.Test.YthhhbnbhcedhmaaPlain2
namespace Go.Proofs.Ythhhbnbhcedhmaa
open Go.RowKit
open Plain

/-- a row of one int that was just laid. -/
theorem Arr.one (w : World) (k : Int) (hk : -9223372036854775808 ≤ k ∧ k ≤ 9223372036854775807) : Arr (w.alloc (.cells #[.int .i64 k] 3)) (some ⟨w.heap.size, 0, none⟩) 1 (fun _ => k) := by
  refine ⟨by omega, fun i hi => ⟨w.heap.size, 0, rfl, lt_of_block (heap_alloc_new' w (.cells #[.int .i64 k] 3)), ?_, hk⟩⟩
  have e := heap_alloc_new' w (.cells #[.int .i64 k] 3)
  rw [cell_of e]
  rw [show i = 0 by omega]
  rfl

/-- a slice that was just laid. -/
theorem sl_new (w : World) (c : Array Value) (t size n : Nat) (h : c.size = n * size) (hn : n ≤ maxLen) : Sl (w.alloc (.cells c t)) t size (some ⟨w.heap.size, 0, none⟩) n n c.toList := by
  refine ⟨by simpa using h, Nat.le_refl _, hn, .inr ⟨w.heap.size, 0, c, rfl, heap_alloc_new' w _, by omega, ?_⟩⟩
  rw [List.drop_zero, ← h]
  exact List.take_of_length_le (by simp)

set_option maxHeartbeats 1000000 in
theorem awake_any (w : World) : Calls Try.prog 15 #[] w fun e w' => e = .returned (.bool true) ∧ Only [] w w' := by
  go_enter Try.func15, Try.ntmps15
  go_wp2_with fail
  have o1 : Only [] w (w.alloc (.cells #[.int .i64 2] 3)) := (Only.refl _ _).alloc _
  refine (cut_any _ _ 1 _ (fun _ => 2) 16777215 false _ (by show 5 ≤ _; omega) (Arr.one w 2 (by omega))).mono ?_
  rintro e w1 ⟨ho1, (⟨hb, rfl⟩ | ⟨_, n, ao, cap, _, hc, rfl, hsl, _⟩)⟩
  · exact absurd ((bad_one _ _ _ _).1 hb) (by simp [ring, ByteArray.size])
  have hn := awake_cuts n hc
  subst hn
  have o2 := o1.trans ho1
  rw [awake_frs] at hsl
  clear o1 ho1 hc
  generalize World.alloc _ _ = wx at *
  go_wp2_with fail
  have o3 := o2.alloc (.cells #[.int .i64 2] 3)
  refine (cut_any _ _ 1 _ (fun _ => 2) 0 false _ (by show 0 ≤ _; omega) (Arr.one w1 2 (by omega))).mono ?_
  rintro e w2 ⟨ho2, (⟨hb, rfl⟩ | ⟨hb, _⟩)⟩
  rotate_left
  · exact absurd ((bad_one _ _ _ _).2 (.inl (by show 0 < 1; omega))) hb
  have o4 := o3.trans ho2
  have hsl2 := (hsl.only ((Only.refl [] w1).alloc (.cells #[.int .i64 2] 3)) (by simp)).only ho2 (by simp)
  clear o2 o3 hsl ho2 hb
  generalize World.alloc _ _ = wy at *
  go_wp2_with (go_at_call 12; refine (num_any _ _).mono ?_; rintro e w' ⟨rfl, rfl⟩)
  have n1 := sl_new w2 #[Value.bool true, Value.bool false, Value.int .i64 16777215, Value.string ⟨#[97, 98]⟩, Value.bool false, Value.bool false, Value.int .i64 0, Value.string ⟨#[99, 100]⟩, Value.bool false, Value.bool true, Value.int .i64 1, Value.string ⟨#[101]⟩] 39 4 3 rfl (by unfold maxLen; omega)
  have n2 := hsl2.only ((Only.refl [] w2).alloc (.cells #[Value.bool true, Value.bool false, Value.int .i64 16777215, Value.string ⟨#[97, 98]⟩, Value.bool false, Value.bool false, Value.int .i64 0, Value.string ⟨#[99, 100]⟩, Value.bool false, Value.bool true, Value.int .i64 1, Value.string ⟨#[101]⟩] 39)) (by simp)
  refine (same_frags _ _ 3 _ _ [⟨true, false, 16777215, ⟨#[97, 98]⟩⟩, ⟨false, false, 0, ⟨#[99, 100]⟩⟩, ⟨false, true, 1, ⟨#[101]⟩⟩] _ rfl (by omega) n2 n1).mono ?_
  rintro e w3 ⟨rfl, ho3⟩
  have o5 := (o4.alloc _).trans ho3
  clear n1 n2 hsl2 o4 ho3
  generalize World.alloc _ _ = wz at *
  go_wp2_with (go_at_call 12; refine (num_any _ _).mono ?_; rintro e w' ⟨rfl, rfl⟩)
  go_ret
  exact ⟨rfl, o5⟩
end Go.Proofs.Ythhhbnbhcedhmaa

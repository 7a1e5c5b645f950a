/- Chapter 8: the contract of awake. -/
import Derived.Test.YtdpknandacoibaaCon
namespace Go.Proofs.Ytdpknandacoibaa
open Go.RowKit
open Plain

theorem get_x (s : ByteArray) (short : Bool) (w : World) (hs : s.size ≤ 9223372036854775807) :
    Calls Try.prog 9 #[.string s, .bool short] w fun x w' => x = .returned (.tuple #[.agg #[.bool (getF s short).b, .bool (getF s short).e, .int .i64 (getF s short).q, .string (getF s short).d], .int .i64 (getE s short)]) ∧ Only [] w w' := get_any s short w hs
theorem unmp_x (s : ByteArray) (short : Bool) (w : World) (hs : s.size ≤ 9223372036854775807) :
    Calls Try.prog 10 #[.string s, .bool short] w fun x w' => x = .returned (.tuple #[.agg #[.bool (getF s short).b, .bool (getF s short).e, .int .i64 (getF s short).q, .string (getF s short).d], .int .i64 (getE s short)]) ∧ Only [] w w' := unmp_any s short w hs

def f0 : Fr := ⟨true, false, 291, ⟨#[120]⟩⟩
theorem a1 : putS f0 true = ⟨#[129, 35, 120]⟩ := by decide +kernel
theorem a2 : putS f0 false = ⟨#[128, 0, 1, 35, 120]⟩ := by decide +kernel
theorem a3 : putE f0 true = 0 := by decide +kernel
theorem a4 : putE f0 false = 0 := by decide +kernel
theorem a5 : getF ⟨#[129, 35, 120]⟩ true = f0 ∧ getE ⟨#[129, 35, 120]⟩ true = 0 := by
  rw [← a1]
  exact there f0 true (by decide +kernel)
theorem a6 : getE ⟨#[1]⟩ true = 800 := by decide +kernel
theorem a7 : putE ⟨false, false, 4096, ⟨#[]⟩⟩ true = 801 := by decide +kernel

set_option maxRecDepth 100000 in
set_option maxHeartbeats 2000000 in
theorem awake_any (w : World) : Calls Try.prog 12 #[] w fun e w' => e = .returned (.bool true) ∧ Only [] w w' := by
  go_enter Try.func12, Try.ntmps12
  go_wp2_with fail
  have hb := heap_alloc_new' w (.cells #[.bool true, .bool false, .int .i64 291, .string ⟨#[120]⟩] 23)
  have O0 := (Only.refl [] w).alloc (.cells #[.bool true, .bool false, .int .i64 291, .string ⟨#[120]⟩] 23)
  generalize World.alloc w _ = w1 at *
  generalize w.heap.size = B at *
  refine (put_any f0 true w1).mono ?_
  rintro e w2 ⟨rfl, O1⟩
  rw [a1, a3]
  have hb2 := O1.at hb (by simp)
  have O2 := O0.trans O1
  have k0 := cell_of hb2 0
  have k1 := cell_of hb2 1
  have k2 := cell_of hb2 2
  have k3 := cell_of hb2 3
  simp only [List.getElem?_toArray, List.getElem?_cons_succ, List.getElem?_cons_zero] at k0 k1 k2 k3
  clear O0 O1 hb
  go_wp2_with fail
  refine (put_any f0 false w2).mono ?_
  rintro e w3 ⟨rfl, O3⟩
  rw [a2, a4]
  have hb3 := O3.at hb2 (by simp)
  have O4 := O2.trans O3
  clear k0 k1 k2 k3 O2 O3 hb2
  go_wp2_with fail
  refine (get_x _ true w3 (by show 3 ≤ _; omega)).mono ?_
  rintro e w4 ⟨rfl, O5⟩
  rw [a5.1, a5.2]
  have hb4 := O5.at hb3 (by simp)
  have O6 := O4.trans O5
  clear O4 O5 hb3
  go_wp2_with fail
  have hc := heap_alloc_new' w4 (.cells #[.bool f0.b, .bool f0.e, .int .i64 f0.q, .string f0.d] 23)
  have O7 := O6.alloc (.cells #[.bool f0.b, .bool f0.e, .int .i64 f0.q, .string f0.d] 23)
  have hb5 := ((Only.refl [] w4).alloc (.cells #[.bool f0.b, .bool f0.e, .int .i64 f0.q, .string f0.d] 23)).at hb4 (by simp)
  clear O6 hb4
  generalize World.alloc w4 _ = w5 at *
  generalize w4.heap.size = C at *
  refine (get_x _ true w5 (by show 1 ≤ _; omega)).mono ?_
  rintro e w6 ⟨rfl, O8⟩
  rw [a6]
  have hb6 := O8.at hb5 (by simp)
  have hc6 := O8.at hc (by simp)
  have O9 := O7.trans O8
  clear O7 O8 hb5 hc
  generalize getF ⟨#[1]⟩ true = G
  go_wp2_with fail
  have hb7 := ((Only.refl [] w6).alloc (.cells #[.bool G.b, .bool G.e, .int .i64 G.q, .string G.d] 23)).at hb6 (by simp)
  have hc7 := ((Only.refl [] w6).alloc (.cells #[.bool G.b, .bool G.e, .int .i64 G.q, .string G.d] 23)).at hc6 (by simp)
  have O10 := O9.alloc (.cells #[.bool G.b, .bool G.e, .int .i64 G.q, .string G.d] 23)
  clear O9 hb6 hc6
  generalize World.alloc w6 _ = w7 at *
  generalize w6.heap.size = D at *
  refine (put_any ⟨false, false, 4096, ⟨#[]⟩⟩ true w7).mono ?_
  rintro e w8 ⟨rfl, O11⟩
  rw [a7]
  have hb8 := O11.at hb7 (by simp)
  have hc8 := O11.at hc7 (by simp)
  have O12 := O10.trans O11
  clear O10 O11 hb7 hc7
  generalize putS ⟨false, false, 4096, ⟨#[]⟩⟩ true = T
  have k0 := cell_of hb8 0
  have k1 := cell_of hb8 1
  have k2 := cell_of hb8 2
  have k3 := cell_of hb8 3
  have l0 := cell_of hc8 0
  have l1 := cell_of hc8 1
  have l2 := cell_of hc8 2
  have l3 := cell_of hc8 3
  simp only [List.getElem?_toArray, List.getElem?_cons_succ, List.getElem?_cons_zero, f0] at k0 k1 k2 k3 l0 l1 l2 l3
  clear hb8 hc8
  go_wp2_with (go_at_call 11; refine (num_any _ _).mono ?_; rintro e w' ⟨rfl, rfl⟩)
  go_ret
  exact ⟨rfl, O12⟩
end Go.Proofs.Ytdpknandacoibaa

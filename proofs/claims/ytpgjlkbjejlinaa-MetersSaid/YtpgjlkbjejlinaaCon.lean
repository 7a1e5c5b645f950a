/- Chapter 23's contracts as the laws take them; awake. -/
import Derived.Test.YtpgjlkbjejlinaaTick
namespace Go.Proofs.Ytpgjlkbjejlinaa
open Go.RowKit
open Plain

theorem s1_zero (n : Nat) : s1 (List.replicate n (0, 0)) = 0 := by
  induction n with
  | zero => rfl
  | succ n ih => rw [List.replicate_succ]; simp [s1, ih]
theorem s2_zero (n : Nat) : s2 (List.replicate n (0, 0)) = 0 := by
  induction n with
  | zero => rfl
  | succ n ih => rw [List.replicate_succ]; simp [s2, ih]

def run0 : Run := ⟨0, 0⟩
def zeros (n : Int) : List (Int × Int) := List.replicate n.toNat (0, 0)

theorem mnew (n h l k : Int) (w : World) (hb : mayB n h l k = true) :
    Calls Try.prog 10 #[.int .i64 n, .int .i64 h, .int .i64 l, .int .i64 k] w fun e w' => ∃ p rr, e = .returned (.tuple #[.pointer (some ⟨p, 0, none⟩), .int .i64 0]) ∧
      MA w' p rr h l k run0 (zeros n) 0 ∧ Only [] w w' ∧ w.heap.size ≤ p ∧ w.heap.size ≤ rr := by
  have hP : 1 ≤ n ∧ n ≤ 32 ∧ 1 ≤ h ∧ h ≤ 1000 ∧ 0 ≤ l ∧ l < h ∧ 1 ≤ k ∧ k ≤ 4096 := by simpa [mayB] using hb
  obtain ⟨m, rfl⟩ := Int.eq_ofNat_of_zero_le (show 0 ≤ n by omega)
  refine (new_good m h l k w hb (by omega)).mono ?_
  rintro e w' ⟨rfl, rfl⟩
  refine ⟨_, w.heap.size, rfl, ?_, ((Only.refl _ _).alloc _).alloc _, by omega, by omega⟩
  have hl : (zeros (m : Int)).length = m := by simp [zeros]
  have e1 : s1 (zeros (m : Int)) = 0 := s1_zero _
  have e2 : s2 (zeros (m : Int)) = 0 := s2_zero _
  refine ⟨⟨0, List.replicate m (0, 0), ?_, ?_, ?_, ?_⟩, by omega, ?_, by omega, by omega, by omega, by omega, by simp [run0], by simp [run0]; omega⟩
  · rw [hl, e1, e2]
    have := heap_alloc_new' (w.alloc (.cells (flat (List.replicate m (0, 0))) 51)) (.cells #[.int .i64 0, .int .i64 0, .int .i64 h, .int .i64 l, .int .i64 k, .slice (some ⟨w.heap.size, 0, none⟩) m m, .int .i64 0, .int .i64 0, .int .i64 0, .int .i64 0] 53)
    simpa [run0] using this
  · rw [Below.heap_alloc _ _ _ (by simp)]
    exact heap_alloc_new' _ _
  · simp [rot, zeros]
  · rw [hl]; omega
  · intro x hx
    have := List.eq_of_mem_replicate hx
    subst this
    exact ⟨by simp, by simp, by simp, by simp⟩

theorem mshare (p rr : Nat) (h l k : Int) (R : Run) (W : List (Int × Int)) (sh : Int) (w : World) (m : MA w p rr h l k R W sh) :
    Calls Try.prog 16 #[.pointer (some ⟨p, 0, none⟩)] w fun e w' => e = .returned (.int .i64 sh) ∧ w = w' := by
  obtain ⟨j, G, hO, _⟩ := m.ex
  have c := cell_of hO 9
  simp only [List.getElem?_toArray, List.getElem?_cons_succ, List.getElem?_cons_zero] at c
  exact share_any p sh w c

set_option maxHeartbeats 400000 in
theorem mtick_bad (p : Addr) (b r : Int) (w : World) (h : b < 0 ∨ 2147483647 < b ∨ r < 0 ∨ 2147483647 < r) :
    Calls Try.prog 14 #[.pointer (some p), .int .i64 b, .int .i64 r] w fun e w' => e = .returned (.tuple #[.int .i64 0, .int .i64 2300]) ∧ w = w' := by
  by_cases h1 : b < 0
  · have d1 : decide (b < 0) = true := by simpa using h1
    clear h
    go_enter Try.func14, Try.ntmps14
    go_wp2
    go_ret2
    exact ⟨rfl, rfl⟩
  have d1 : decide (b < 0) = false := by simpa using h1
  by_cases h2 : 2147483647 < b
  · have d2 : decide (2147483647 < b) = true := by simpa using h2
    clear h
    go_enter Try.func14, Try.ntmps14
    go_wp2
    go_ret2
    exact ⟨rfl, rfl⟩
  have d2 : decide (2147483647 < b) = false := by simpa using h2
  by_cases h3 : r < 0
  · have d3 : decide (r < 0) = true := by simpa using h3
    clear h
    go_enter Try.func14, Try.ntmps14
    go_wp2
    go_ret2
    exact ⟨rfl, rfl⟩
  have d3 : decide (r < 0) = false := by simpa using h3
  have d4 : decide (2147483647 < r) = true := by simp; omega
  clear h
  go_enter Try.func14, Try.ntmps14
  go_wp2
  go_ret2
  exact ⟨rfl, rfl⟩
end Go.Proofs.Ytpgjlkbjejlinaa

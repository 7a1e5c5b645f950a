/- Contracts of chapter 23's functions: meter.May, New, add, turn, Tick, Share. -/
import Derived.Test.YtpgjlkbjejlinaaRows
import Derived.Test.YtpgjlkbjejlinaaBase
import Derived.Test.YtpgjlkbjejlinaaBase2
import Derived.Test.YtpgjlkbjejlinaaRegion5
import Derived.Test.YtpgjlkbjejlinaaPlain
import Derived.Lib.Hide
import Derived.Deep.Cut
namespace Go.Proofs.Ytpgjlkbjejlinaa
open Go.RowKit
open Plain

theorem mixed : Try.prog.follows .mixedOrders = true := by kernel_rfl
theorem num_any (n : Int) (w : World) : Calls Try.prog 12 #[.int .i64 n] w fun e w' => e = .returned (.int .i64 n) ∧ w = w' := by
  go_enter Try.func12, Try.ntmps12
  go_wp2
  go_ret
  exact ⟨rfl, rfl⟩

/-- a ring of reports in memory. -/
def flat (R : List (Int × Int)) : Array Value := (R.flatMap fun x => [Value.int .i64 x.1, Value.int .i64 x.2]).toArray

theorem flat_size (R : List (Int × Int)) : (flat R).size = R.length * 2 := by
  unfold flat
  induction R with
  | nil => rfl
  | cons x R ih => simp at ih ⊢; omega
theorem flat_get (R : List (Int × Int)) (k : Nat) (hk : k < R.length) : (flat R)[k * 2]? = some (.int .i64 R[k].1) ∧ (flat R)[k * 2 + 1]? = some (.int .i64 R[k].2) := by
  unfold flat
  induction R generalizing k with
  | nil => simp at hk
  | cons x R ih =>
    cases k with
    | zero => simp
    | succ k =>
      have := ih k (by simpa using hk)
      have e : (k + 1) * 2 = k * 2 + 1 + 1 := by omega
      simp [e] at this ⊢
      exact this
theorem flat_set (R : List (Int × Int)) (k : Nat) (hk : k < R.length) (s x : Int) :
    ((flat R).setIfInBounds (k * 2) (.int .i64 s)).setIfInBounds (k * 2 + 1) (.int .i64 x) = flat (R.set k (s, x)) := by
  unfold flat
  induction R generalizing k with
  | nil => simp at hk
  | cons y R ih =>
    cases k with
    | zero => simp
    | succ k =>
      have := ih k (by simpa using hk)
      have e : (k + 1) * 2 = k * 2 + 1 + 1 := by omega
      simp [e] at this ⊢
      exact this
theorem flat_zero (n : Nat) : flat (List.replicate n (0, 0)) = Array.replicate (n * 2) (.int .i64 0) := by
  unfold flat
  apply Array.ext'
  rw [Array.toList_replicate]
  induction n with
  | zero => rfl
  | succ n ih => rw [List.replicate_succ, List.flatMap_cons, show (n + 1) * 2 = n * 2 + 1 + 1 by omega, List.replicate_succ, List.replicate_succ]; simp at ih ⊢; exact ih


theorem madeRow (n : Nat) : madeCells #[Value.int .i64 0, Value.int .i64 0] (n * 2) = flat (List.replicate n (0, 0)) := by
  rw [flat_zero]
  apply Array.ext
  · simp [madeCells]
  · intro i h1 h2
    simp [madeCells]
    have : i % 2 = 0 ∨ i % 2 = 1 := by omega
    rcases this with e | e <;> simp [e]
theorem info51 : (Try.prog.info? 51).map (fun i => (i.zero, i.size, i.bytes)) = some (some (.agg #[.int .i64 0, .int .i64 0]), 2, 16) := by kernel_rfl
theorem made (n : Nat) (hn : n ≤ 32) (w : World) : (Instr.makeSlice 47 (.int .i64 n) (.int .i64 n)).run Try.prog w =
    .ok (.slice (some ⟨w.heap.size, 0, none⟩) n n) (w.alloc (.cells (flat (List.replicate n (0, 0))) 51)) := by
  obtain ⟨i, hi, hz, hs, hb⟩ := info_parts info51
  have := run_make (P := Try.prog) w 47 51 i _ Try.underlying47 hi hz .i64 .i64 (n : Int) (n : Int) (by omega) (by omega) (by rw [hb]; omega) (by omega)
  rw [this, hs]
  simp only [Int.toNat_natCast]
  rw [← madeRow]
  rfl

def mayB (window high low hold : Int) : Bool := decide (1 ≤ window ∧ window ≤ 32 ∧ 1 ≤ high ∧ high ≤ 1000 ∧ 0 ≤ low ∧ low < high ∧ 1 ≤ hold ∧ hold ≤ 4096)
theorem mayB_and (window high low hold : Int) : mayB window high low hold = (decide (1 ≤ window) && decide (window ≤ 32) && decide (1 ≤ high) && decide (high ≤ 1000) && decide (0 ≤ low) && decide (low < high) && decide (1 ≤ hold) && decide (hold ≤ 4096)) := by
  rw [Bool.eq_iff_iff]
  simp only [mayB, Bool.and_eq_true, decide_eq_true_eq]
  omega
set_option maxRecDepth 100000 in
theorem may_any (window high low hold : Int) (w : World) : Calls Try.prog 17 #[.int .i64 window, .int .i64 high, .int .i64 low, .int .i64 hold] w fun e w' => e = .returned (.bool (mayB window high low hold)) ∧ w = w' := by
  cases d0 : decide (1 ≤ window)
  · have hv : (mayB window high low hold) = false := by simp [mayB_and, d0]
    rw [hv]
    clear hv
    go_enter Try.func17, Try.ntmps17
    go_wp2_with fail
    go_ret
    exact ⟨rfl, rfl⟩
  cases d1 : decide (window ≤ 32)
  · have hv : (mayB window high low hold) = false := by simp [mayB_and, d0, d1]
    rw [hv]
    clear hv
    go_enter Try.func17, Try.ntmps17
    go_wp2_with fail
    go_ret
    exact ⟨rfl, rfl⟩
  cases d2 : decide (1 ≤ high)
  · have hv : (mayB window high low hold) = false := by simp [mayB_and, d0, d1, d2]
    rw [hv]
    clear hv
    go_enter Try.func17, Try.ntmps17
    go_wp2_with fail
    go_ret
    exact ⟨rfl, rfl⟩
  cases d3 : decide (high ≤ 1000)
  · have hv : (mayB window high low hold) = false := by simp [mayB_and, d0, d1, d2, d3]
    rw [hv]
    clear hv
    go_enter Try.func17, Try.ntmps17
    go_wp2_with fail
    go_ret
    exact ⟨rfl, rfl⟩
  cases d4 : decide (0 ≤ low)
  · have hv : (mayB window high low hold) = false := by simp [mayB_and, d0, d1, d2, d3, d4]
    rw [hv]
    clear hv
    go_enter Try.func17, Try.ntmps17
    go_wp2_with fail
    go_ret
    exact ⟨rfl, rfl⟩
  cases d5 : decide (low < high)
  · have hv : (mayB window high low hold) = false := by simp [mayB_and, d0, d1, d2, d3, d4, d5]
    rw [hv]
    clear hv
    go_enter Try.func17, Try.ntmps17
    go_wp2_with fail
    go_ret
    exact ⟨rfl, rfl⟩
  cases d6 : decide (1 ≤ hold)
  · have hv : (mayB window high low hold) = false := by simp [mayB_and, d0, d1, d2, d3, d4, d5, d6]
    rw [hv]
    clear hv
    go_enter Try.func17, Try.ntmps17
    go_wp2_with fail
    go_ret
    exact ⟨rfl, rfl⟩
  have hv : (mayB window high low hold) = decide (hold ≤ 4096) := by simp [mayB_and, d0, d1, d2, d3, d4, d5, d6]
  rw [hv]
  clear hv
  go_enter Try.func17, Try.ntmps17
  go_wp2_with fail
  go_ret
  exact ⟨rfl, rfl⟩

theorem new_bad (n h l k : Int) (w : World) (hb : mayB n h l k = false) :
    Calls Try.prog 10 #[.int .i64 n, .int .i64 h, .int .i64 l, .int .i64 k] w fun e w' => e = .returned (.tuple #[.pointer none, .int .i64 2300]) ∧ w = w' := by
  go_enter Try.func10, Try.ntmps10
  go_wp2_with (go_at_call 17; refine (may_any _ _ _ _ _).mono ?_; rw [hb]; rintro e w' ⟨rfl, rfl⟩)
  go_ret2
  exact ⟨rfl, rfl⟩
set_option maxHeartbeats 400000 in
theorem new_good (n : Nat) (h l k : Int) (w : World) (hb : mayB n h l k = true) (hn : n ≤ 32) :
    Calls Try.prog 10 #[.int .i64 n, .int .i64 h, .int .i64 l, .int .i64 k] w fun e w' => e = .returned (.tuple #[.pointer (some ⟨w.heap.size + 1, 0, none⟩), .int .i64 0]) ∧
      w' = (w.alloc (.cells (flat (List.replicate n (0, 0))) 51)).alloc (.cells #[.int .i64 0, .int .i64 0, .int .i64 h, .int .i64 l, .int .i64 k, .slice (some ⟨w.heap.size, 0, none⟩) n n, .int .i64 0, .int .i64 0, .int .i64 0, .int .i64 0] 53) := by
  have hmk := made n hn
  generalize flat (List.replicate n (0, 0)) = fl at *
  go_enter Try.func10, Try.ntmps10
  go_wp2_with (go_at_call 17; refine (may_any _ _ _ _ _).mono ?_; rw [hb]; rintro e w' ⟨rfl, rfl⟩)
  go_ret2
  exact ⟨rfl, rfl⟩

/-- the pointer of a meter, its share. -/
theorem share_any (p : Nat) (s : Int) (w : World) (c : w.cell? ⟨p, 9, none⟩ = some (.int .i64 s)) : Calls Try.prog 16 #[.pointer (some ⟨p, 0, none⟩)] w fun e w' => e = .returned (.int .i64 s) ∧ w = w' := by
  go_enter Try.func16, Try.ntmps16
  go_wp2
  go_ret
  exact ⟨rfl, rfl⟩

end Go.Proofs.Ytpgjlkbjejlinaa

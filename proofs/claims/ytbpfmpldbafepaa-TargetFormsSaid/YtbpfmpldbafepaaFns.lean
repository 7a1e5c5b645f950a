/- Contracts of chapter 24's functions. -/
import Derived.Test.YtbpfmpldbafepaaRows
import Derived.Test.YtbpfmpldbafepaaBase
import Derived.Test.YtbpfmpldbafepaaBase2
import Derived.Test.YtbpfmpldbafepaaPlain
import Derived.Deep.Cut
import Derived.Lib.Hide
import Derived.Deep.DeepCutAuto
namespace Go.Proofs.Ytbpfmpldbafepaa
open Go.RowKit
open Plain

/-- a config as a value. -/
theorem ret_bool {a b : Bool} (h : b = a) : Ending.returned (.bool a) = .returned (.bool b) := by rw [h]
def cells (c : Cfg) : Array Value := #[.int .i64 c.ports, .int .i64 c.links, .int .i64 c.least, .int .i64 c.rate, .int .i64 c.window, .int .i64 c.high, .int .i64 c.low, .int .i64 c.hold, .int .i64 c.base, .int .i64 c.cap, .int .i64 c.restart, .int .i64 c.tries, .bool c.short, .string c.sa, .string c.sb, .string c.ex, .int .i64 c.ma, .int .i64 c.mb]

theorem num_any (n : Int) (w : World) : Calls Try.prog 9 #[.int .i64 n] w fun e w' => e = .returned (.int .i64 n) ∧ w = w' := by
  go_enter Try.func9, Try.ntmps9
  go_wp2
  go_ret
  exact ⟨rfl, rfl⟩

theorem in_any (x a b : Int) (w : World) : Calls Try.prog 16 #[.int .i64 x, .int .i64 a, .int .i64 b] w fun e w' => e = .returned (.bool (inB x a b)) ∧ w = w' := by
  have h : inB x a b = (decide (a ≤ x) && decide (x ≤ b)) := by simp [inB]
  rw [h]
  clear h
  by_cases h1 : a ≤ x
  · have d1 : decide (a ≤ x) = true := by simpa using h1
    rw [d1]
    go_enter Try.func16, Try.ntmps16
    go_wp2
    go_ret
    exact ⟨rfl, rfl⟩
  · have d1 : decide (a ≤ x) = false := by simpa using h1
    rw [d1]
    go_enter Try.func16, Try.ntmps16
    go_wp2
    go_ret
    exact ⟨rfl, rfl⟩
set_option maxRecDepth 100000 in
theorem shape_any (rate least links : Int) (w : World) : Calls Try.prog 17 #[.int .i64 rate, .int .i64 least, .int .i64 links] w fun e w' => e = .returned (.bool (shapeB rate least links)) ∧ w = w' := by
  cases d0 : inB rate 64 4096
  · have hv : (shapeB rate least links) = false := by simp [shapeB, d0]
    rw [hv]
    clear hv
    go_enter Try.func17, Try.ntmps17
    go_wp2_with (go_at_call 16; refine (in_any _ _ _ _).mono ?_; rintro e w' ⟨rfl, rfl⟩)
    go_ret
    exact ⟨rfl, rfl⟩
  cases d1 : inB links 1 6
  · have hv : (shapeB rate least links) = false := by simp [shapeB, d0, d1]
    rw [hv]
    clear hv
    go_enter Try.func17, Try.ntmps17
    go_wp2_with (go_at_call 16; refine (in_any _ _ _ _).mono ?_; rintro e w' ⟨rfl, rfl⟩)
    go_ret
    exact ⟨rfl, rfl⟩
  have hv : (shapeB rate least links) = inB least 1 links := by simp [shapeB, d0, d1]
  rw [hv]
  clear hv
  go_enter Try.func17, Try.ntmps17
  go_wp2_with (go_at_call 16; refine (in_any _ _ _ _).mono ?_; rintro e w' ⟨rfl, rfl⟩)
  go_ret
  exact ⟨rfl, rfl⟩
theorem meterB_and (window high low hold : Int) : meterB window high low hold = (decide (1 ≤ window) && decide (window ≤ 32) && decide (1 ≤ high) && decide (high ≤ 1000) && decide (0 ≤ low) && decide (low < high) && decide (1 ≤ hold) && decide (hold ≤ 4096)) := by
  rw [Bool.eq_iff_iff]
  simp only [meterB, Bool.and_eq_true, decide_eq_true_eq]
  omega
set_option maxRecDepth 100000 in
theorem meter_any (window high low hold : Int) (w : World) : Calls Try.prog 18 #[.int .i64 window, .int .i64 high, .int .i64 low, .int .i64 hold] w fun e w' => e = .returned (.bool (meterB window high low hold)) ∧ w = w' := by
  cases d0 : decide (1 ≤ window)
  · have hv : (meterB window high low hold) = false := by simp [meterB_and, d0]
    rw [hv]
    clear hv
    go_enter Try.func18, Try.ntmps18
    go_wp2_with fail
    go_ret
    exact ⟨rfl, rfl⟩
  cases d1 : decide (window ≤ 32)
  · have hv : (meterB window high low hold) = false := by simp [meterB_and, d0, d1]
    rw [hv]
    clear hv
    go_enter Try.func18, Try.ntmps18
    go_wp2_with fail
    go_ret
    exact ⟨rfl, rfl⟩
  cases d2 : decide (1 ≤ high)
  · have hv : (meterB window high low hold) = false := by simp [meterB_and, d0, d1, d2]
    rw [hv]
    clear hv
    go_enter Try.func18, Try.ntmps18
    go_wp2_with fail
    go_ret
    exact ⟨rfl, rfl⟩
  cases d3 : decide (high ≤ 1000)
  · have hv : (meterB window high low hold) = false := by simp [meterB_and, d0, d1, d2, d3]
    rw [hv]
    clear hv
    go_enter Try.func18, Try.ntmps18
    go_wp2_with fail
    go_ret
    exact ⟨rfl, rfl⟩
  cases d4 : decide (0 ≤ low)
  · have hv : (meterB window high low hold) = false := by simp [meterB_and, d0, d1, d2, d3, d4]
    rw [hv]
    clear hv
    go_enter Try.func18, Try.ntmps18
    go_wp2_with fail
    go_ret
    exact ⟨rfl, rfl⟩
  cases d5 : decide (low < high)
  · have hv : (meterB window high low hold) = false := by simp [meterB_and, d0, d1, d2, d3, d4, d5]
    rw [hv]
    clear hv
    go_enter Try.func18, Try.ntmps18
    go_wp2_with fail
    go_ret
    exact ⟨rfl, rfl⟩
  cases d6 : decide (1 ≤ hold)
  · have hv : (meterB window high low hold) = false := by simp [meterB_and, d0, d1, d2, d3, d4, d5, d6]
    rw [hv]
    clear hv
    go_enter Try.func18, Try.ntmps18
    go_wp2_with fail
    go_ret
    exact ⟨rfl, rfl⟩
  have hv : (meterB window high low hold) = decide (hold ≤ 4096) := by simp [meterB_and, d0, d1, d2, d3, d4, d5, d6]
  rw [hv]
  clear hv
  go_enter Try.func18, Try.ntmps18
  go_wp2_with fail
  go_ret
  exact ⟨rfl, rfl⟩
theorem sec_any (s : ByteArray) (w : World) : Calls Try.prog 19 #[.string s] w fun e w' => e = .returned (.bool (secB s)) ∧ w = w' := by
  go_enter Try.func19, Try.ntmps19
  go_wp2_with (go_at_call 16; refine (in_any _ _ _ _).mono ?_; rintro e w' ⟨rfl, rfl⟩)
  go_ret
  exact ⟨rfl, rfl⟩
theorem rsec_any (s : ByteArray) (w : World) : Calls Try.prog 20 #[.string s] w fun e w' => e = .returned (.bool (secB s)) ∧ w = w' := by
  have h : secB s = (decide ((1 : Int) ≤ s.size) && decide ((s.size : Int) ≤ 64)) := by simp [secB, inB]
  rw [h]
  clear h
  by_cases h1 : (1 : Int) ≤ s.size
  · have d1 : decide ((1 : Int) ≤ s.size) = true := by simpa using h1
    rw [d1]
    go_enter Try.func20, Try.ntmps20
    go_wp2
    go_ret
    exact ⟨by simp, rfl⟩
  · have d1 : decide ((1 : Int) ≤ s.size) = false := by simpa using h1
    rw [d1]
    go_enter Try.func20, Try.ntmps20
    go_wp2
    go_ret
    exact ⟨by simp, rfl⟩
theorem mag_any (x : Int) (w : World) : Calls Try.prog 21 #[.int .i64 x] w fun e w' => e = .returned (.bool (magB x)) ∧ w = w' := by
  have h : magB x = (decide (1 ≤ x) && decide (x ≤ 4294967295)) := by simp [magB]
  rw [h]
  clear h
  by_cases h1 : 1 ≤ x
  · have d1 : decide (1 ≤ x) = true := by simpa using h1
    rw [d1]
    go_enter Try.func21, Try.ntmps21
    go_wp2
    go_ret
    exact ⟨by simp, rfl⟩
  · have d1 : decide (1 ≤ x) = false := by simpa using h1
    rw [d1]
    go_enter Try.func21, Try.ntmps21
    go_wp2
    go_ret
    exact ⟨by simp, rfl⟩
set_option maxRecDepth 100000 in
set_option maxHeartbeats 4000000 in
theorem may_any (c : Cfg) (w : World) : Calls Try.prog 10 #[.agg (cells c)] w fun e w' => e = .returned (.bool (mayB c)) ∧ Only [] w w' := by
  have ho : Only [] w (w.alloc (.cells #[.int .i64 c.ports, .int .i64 c.links, .int .i64 c.least, .int .i64 c.rate, .int .i64 c.window, .int .i64 c.high, .int .i64 c.low, .int .i64 c.hold, .int .i64 c.base, .int .i64 c.cap, .int .i64 c.restart, .int .i64 c.tries, .bool c.short, .string c.sa, .string c.sb, .string c.ex, .int .i64 c.ma, .int .i64 c.mb] 23)) := (Only.refl _ _).alloc _
  unfold cells
  have c0 : (w.alloc (.cells #[.int .i64 c.ports, .int .i64 c.links, .int .i64 c.least, .int .i64 c.rate, .int .i64 c.window, .int .i64 c.high, .int .i64 c.low, .int .i64 c.hold, .int .i64 c.base, .int .i64 c.cap, .int .i64 c.restart, .int .i64 c.tries, .bool c.short, .string c.sa, .string c.sb, .string c.ex, .int .i64 c.ma, .int .i64 c.mb] 23)).cell? ⟨w.heap.size, 0, none⟩ = some (.int .i64 c.ports) := by simp [World.cell?_alloc_new]
  have c1 : (w.alloc (.cells #[.int .i64 c.ports, .int .i64 c.links, .int .i64 c.least, .int .i64 c.rate, .int .i64 c.window, .int .i64 c.high, .int .i64 c.low, .int .i64 c.hold, .int .i64 c.base, .int .i64 c.cap, .int .i64 c.restart, .int .i64 c.tries, .bool c.short, .string c.sa, .string c.sb, .string c.ex, .int .i64 c.ma, .int .i64 c.mb] 23)).cell? ⟨w.heap.size, 1, none⟩ = some (.int .i64 c.links) := by simp [World.cell?_alloc_new]
  have c2 : (w.alloc (.cells #[.int .i64 c.ports, .int .i64 c.links, .int .i64 c.least, .int .i64 c.rate, .int .i64 c.window, .int .i64 c.high, .int .i64 c.low, .int .i64 c.hold, .int .i64 c.base, .int .i64 c.cap, .int .i64 c.restart, .int .i64 c.tries, .bool c.short, .string c.sa, .string c.sb, .string c.ex, .int .i64 c.ma, .int .i64 c.mb] 23)).cell? ⟨w.heap.size, 2, none⟩ = some (.int .i64 c.least) := by simp [World.cell?_alloc_new]
  have c3 : (w.alloc (.cells #[.int .i64 c.ports, .int .i64 c.links, .int .i64 c.least, .int .i64 c.rate, .int .i64 c.window, .int .i64 c.high, .int .i64 c.low, .int .i64 c.hold, .int .i64 c.base, .int .i64 c.cap, .int .i64 c.restart, .int .i64 c.tries, .bool c.short, .string c.sa, .string c.sb, .string c.ex, .int .i64 c.ma, .int .i64 c.mb] 23)).cell? ⟨w.heap.size, 3, none⟩ = some (.int .i64 c.rate) := by simp [World.cell?_alloc_new]
  have c4 : (w.alloc (.cells #[.int .i64 c.ports, .int .i64 c.links, .int .i64 c.least, .int .i64 c.rate, .int .i64 c.window, .int .i64 c.high, .int .i64 c.low, .int .i64 c.hold, .int .i64 c.base, .int .i64 c.cap, .int .i64 c.restart, .int .i64 c.tries, .bool c.short, .string c.sa, .string c.sb, .string c.ex, .int .i64 c.ma, .int .i64 c.mb] 23)).cell? ⟨w.heap.size, 4, none⟩ = some (.int .i64 c.window) := by simp [World.cell?_alloc_new]
  have c5 : (w.alloc (.cells #[.int .i64 c.ports, .int .i64 c.links, .int .i64 c.least, .int .i64 c.rate, .int .i64 c.window, .int .i64 c.high, .int .i64 c.low, .int .i64 c.hold, .int .i64 c.base, .int .i64 c.cap, .int .i64 c.restart, .int .i64 c.tries, .bool c.short, .string c.sa, .string c.sb, .string c.ex, .int .i64 c.ma, .int .i64 c.mb] 23)).cell? ⟨w.heap.size, 5, none⟩ = some (.int .i64 c.high) := by simp [World.cell?_alloc_new]
  have c6 : (w.alloc (.cells #[.int .i64 c.ports, .int .i64 c.links, .int .i64 c.least, .int .i64 c.rate, .int .i64 c.window, .int .i64 c.high, .int .i64 c.low, .int .i64 c.hold, .int .i64 c.base, .int .i64 c.cap, .int .i64 c.restart, .int .i64 c.tries, .bool c.short, .string c.sa, .string c.sb, .string c.ex, .int .i64 c.ma, .int .i64 c.mb] 23)).cell? ⟨w.heap.size, 6, none⟩ = some (.int .i64 c.low) := by simp [World.cell?_alloc_new]
  have c7 : (w.alloc (.cells #[.int .i64 c.ports, .int .i64 c.links, .int .i64 c.least, .int .i64 c.rate, .int .i64 c.window, .int .i64 c.high, .int .i64 c.low, .int .i64 c.hold, .int .i64 c.base, .int .i64 c.cap, .int .i64 c.restart, .int .i64 c.tries, .bool c.short, .string c.sa, .string c.sb, .string c.ex, .int .i64 c.ma, .int .i64 c.mb] 23)).cell? ⟨w.heap.size, 7, none⟩ = some (.int .i64 c.hold) := by simp [World.cell?_alloc_new]
  have c8 : (w.alloc (.cells #[.int .i64 c.ports, .int .i64 c.links, .int .i64 c.least, .int .i64 c.rate, .int .i64 c.window, .int .i64 c.high, .int .i64 c.low, .int .i64 c.hold, .int .i64 c.base, .int .i64 c.cap, .int .i64 c.restart, .int .i64 c.tries, .bool c.short, .string c.sa, .string c.sb, .string c.ex, .int .i64 c.ma, .int .i64 c.mb] 23)).cell? ⟨w.heap.size, 8, none⟩ = some (.int .i64 c.base) := by simp [World.cell?_alloc_new]
  have c9 : (w.alloc (.cells #[.int .i64 c.ports, .int .i64 c.links, .int .i64 c.least, .int .i64 c.rate, .int .i64 c.window, .int .i64 c.high, .int .i64 c.low, .int .i64 c.hold, .int .i64 c.base, .int .i64 c.cap, .int .i64 c.restart, .int .i64 c.tries, .bool c.short, .string c.sa, .string c.sb, .string c.ex, .int .i64 c.ma, .int .i64 c.mb] 23)).cell? ⟨w.heap.size, 9, none⟩ = some (.int .i64 c.cap) := by simp [World.cell?_alloc_new]
  have c10 : (w.alloc (.cells #[.int .i64 c.ports, .int .i64 c.links, .int .i64 c.least, .int .i64 c.rate, .int .i64 c.window, .int .i64 c.high, .int .i64 c.low, .int .i64 c.hold, .int .i64 c.base, .int .i64 c.cap, .int .i64 c.restart, .int .i64 c.tries, .bool c.short, .string c.sa, .string c.sb, .string c.ex, .int .i64 c.ma, .int .i64 c.mb] 23)).cell? ⟨w.heap.size, 10, none⟩ = some (.int .i64 c.restart) := by simp [World.cell?_alloc_new]
  have c11 : (w.alloc (.cells #[.int .i64 c.ports, .int .i64 c.links, .int .i64 c.least, .int .i64 c.rate, .int .i64 c.window, .int .i64 c.high, .int .i64 c.low, .int .i64 c.hold, .int .i64 c.base, .int .i64 c.cap, .int .i64 c.restart, .int .i64 c.tries, .bool c.short, .string c.sa, .string c.sb, .string c.ex, .int .i64 c.ma, .int .i64 c.mb] 23)).cell? ⟨w.heap.size, 11, none⟩ = some (.int .i64 c.tries) := by simp [World.cell?_alloc_new]
  have c12 : (w.alloc (.cells #[.int .i64 c.ports, .int .i64 c.links, .int .i64 c.least, .int .i64 c.rate, .int .i64 c.window, .int .i64 c.high, .int .i64 c.low, .int .i64 c.hold, .int .i64 c.base, .int .i64 c.cap, .int .i64 c.restart, .int .i64 c.tries, .bool c.short, .string c.sa, .string c.sb, .string c.ex, .int .i64 c.ma, .int .i64 c.mb] 23)).cell? ⟨w.heap.size, 12, none⟩ = some (.bool c.short) := by simp [World.cell?_alloc_new]
  have c13 : (w.alloc (.cells #[.int .i64 c.ports, .int .i64 c.links, .int .i64 c.least, .int .i64 c.rate, .int .i64 c.window, .int .i64 c.high, .int .i64 c.low, .int .i64 c.hold, .int .i64 c.base, .int .i64 c.cap, .int .i64 c.restart, .int .i64 c.tries, .bool c.short, .string c.sa, .string c.sb, .string c.ex, .int .i64 c.ma, .int .i64 c.mb] 23)).cell? ⟨w.heap.size, 13, none⟩ = some (.string c.sa) := by simp [World.cell?_alloc_new]
  have c14 : (w.alloc (.cells #[.int .i64 c.ports, .int .i64 c.links, .int .i64 c.least, .int .i64 c.rate, .int .i64 c.window, .int .i64 c.high, .int .i64 c.low, .int .i64 c.hold, .int .i64 c.base, .int .i64 c.cap, .int .i64 c.restart, .int .i64 c.tries, .bool c.short, .string c.sa, .string c.sb, .string c.ex, .int .i64 c.ma, .int .i64 c.mb] 23)).cell? ⟨w.heap.size, 14, none⟩ = some (.string c.sb) := by simp [World.cell?_alloc_new]
  have c15 : (w.alloc (.cells #[.int .i64 c.ports, .int .i64 c.links, .int .i64 c.least, .int .i64 c.rate, .int .i64 c.window, .int .i64 c.high, .int .i64 c.low, .int .i64 c.hold, .int .i64 c.base, .int .i64 c.cap, .int .i64 c.restart, .int .i64 c.tries, .bool c.short, .string c.sa, .string c.sb, .string c.ex, .int .i64 c.ma, .int .i64 c.mb] 23)).cell? ⟨w.heap.size, 15, none⟩ = some (.string c.ex) := by simp [World.cell?_alloc_new]
  have c16 : (w.alloc (.cells #[.int .i64 c.ports, .int .i64 c.links, .int .i64 c.least, .int .i64 c.rate, .int .i64 c.window, .int .i64 c.high, .int .i64 c.low, .int .i64 c.hold, .int .i64 c.base, .int .i64 c.cap, .int .i64 c.restart, .int .i64 c.tries, .bool c.short, .string c.sa, .string c.sb, .string c.ex, .int .i64 c.ma, .int .i64 c.mb] 23)).cell? ⟨w.heap.size, 16, none⟩ = some (.int .i64 c.ma) := by simp [World.cell?_alloc_new]
  have c17 : (w.alloc (.cells #[.int .i64 c.ports, .int .i64 c.links, .int .i64 c.least, .int .i64 c.rate, .int .i64 c.window, .int .i64 c.high, .int .i64 c.low, .int .i64 c.hold, .int .i64 c.base, .int .i64 c.cap, .int .i64 c.restart, .int .i64 c.tries, .bool c.short, .string c.sa, .string c.sb, .string c.ex, .int .i64 c.ma, .int .i64 c.mb] 23)).cell? ⟨w.heap.size, 17, none⟩ = some (.int .i64 c.mb) := by simp [World.cell?_alloc_new]
  go_enter Try.func10, Try.ntmps10
  go_upto_region 1 with fail
  generalize World.alloc _ _ = w1 at *
  generalize w.heap.size = B at *
  go_cut [3] (fun s wx => s = .bool (linksB c) ∧ w1 = wx)
  case first =>
    cases d0 : inB c.ports 1 8
    · as_aux_lemma =>
        have hv : linksB c = false := by simp [linksB, d0]
        have HV := Lib.hid hv
        clear hv
        go_wp2_with (first | (go_at_call 16; refine (in_any _ _ _ _).mono ?_; rintro e w' ⟨rfl, rfl⟩) | (go_at_call 17; refine (shape_any _ _ _ _).mono ?_; rintro e w' ⟨rfl, rfl⟩) | (go_at_call 18; refine (meter_any _ _ _ _ _).mono ?_; rintro e w' ⟨rfl, rfl⟩) | (go_at_call 19; refine (sec_any _ _).mono ?_; rintro e w' ⟨rfl, rfl⟩))
        go_meet
        exact ⟨by rw [HV.out], rfl⟩
    cases d1 : decide (c.links ≤ c.ports)
    · as_aux_lemma =>
        have hv : linksB c = false := by simp [linksB, d0, d1]
        have HV := Lib.hid hv
        clear hv
        go_wp2_with (first | (go_at_call 16; refine (in_any _ _ _ _).mono ?_; rintro e w' ⟨rfl, rfl⟩) | (go_at_call 17; refine (shape_any _ _ _ _).mono ?_; rintro e w' ⟨rfl, rfl⟩) | (go_at_call 18; refine (meter_any _ _ _ _ _).mono ?_; rintro e w' ⟨rfl, rfl⟩) | (go_at_call 19; refine (sec_any _ _).mono ?_; rintro e w' ⟨rfl, rfl⟩))
        go_meet
        exact ⟨by rw [HV.out], rfl⟩
    have hv : linksB c = shapeB c.rate c.least c.links := by simp [linksB, d0, d1]
    have HV := Lib.hid hv
    clear hv
    go_wp2_with (first | (go_at_call 16; refine (in_any _ _ _ _).mono ?_; rintro e w' ⟨rfl, rfl⟩) | (go_at_call 17; refine (shape_any _ _ _ _).mono ?_; rintro e w' ⟨rfl, rfl⟩) | (go_at_call 18; refine (meter_any _ _ _ _ _).mono ?_; rintro e w' ⟨rfl, rfl⟩) | (go_at_call 19; refine (sec_any _ _).mono ?_; rintro e w' ⟨rfl, rfl⟩))
    go_meet
    exact ⟨by rw [HV.out], rfl⟩
  case rest =>
  obtain ⟨rfl, rfl⟩ := hcut
  go_upto_region 2 with fail
  go_cut [4] (fun s wx => s = .bool (metersB c) ∧ w1 = wx)
  case first =>
    cases d0 : inB c.window 1 64
    · as_aux_lemma =>
        have hv : metersB c = false := by simp [metersB, d0]
        have HV := Lib.hid hv
        clear hv
        go_wp2_with (first | (go_at_call 16; refine (in_any _ _ _ _).mono ?_; rintro e w' ⟨rfl, rfl⟩) | (go_at_call 17; refine (shape_any _ _ _ _).mono ?_; rintro e w' ⟨rfl, rfl⟩) | (go_at_call 18; refine (meter_any _ _ _ _ _).mono ?_; rintro e w' ⟨rfl, rfl⟩) | (go_at_call 19; refine (sec_any _ _).mono ?_; rintro e w' ⟨rfl, rfl⟩))
        go_meet
        exact ⟨by rw [HV.out], rfl⟩
    cases d1 : meterB 1 c.high c.low c.hold
    · as_aux_lemma =>
        have hv : metersB c = false := by simp [metersB, d0, d1]
        have HV := Lib.hid hv
        clear hv
        go_wp2_with (first | (go_at_call 16; refine (in_any _ _ _ _).mono ?_; rintro e w' ⟨rfl, rfl⟩) | (go_at_call 17; refine (shape_any _ _ _ _).mono ?_; rintro e w' ⟨rfl, rfl⟩) | (go_at_call 18; refine (meter_any _ _ _ _ _).mono ?_; rintro e w' ⟨rfl, rfl⟩) | (go_at_call 19; refine (sec_any _ _).mono ?_; rintro e w' ⟨rfl, rfl⟩))
        go_meet
        exact ⟨by rw [HV.out], rfl⟩
    have hv : metersB c = decide (c.hold ≤ 64) := by simp [metersB, d0, d1]
    have HV := Lib.hid hv
    clear hv
    go_wp2_with (first | (go_at_call 16; refine (in_any _ _ _ _).mono ?_; rintro e w' ⟨rfl, rfl⟩) | (go_at_call 17; refine (shape_any _ _ _ _).mono ?_; rintro e w' ⟨rfl, rfl⟩) | (go_at_call 18; refine (meter_any _ _ _ _ _).mono ?_; rintro e w' ⟨rfl, rfl⟩) | (go_at_call 19; refine (sec_any _ _).mono ?_; rintro e w' ⟨rfl, rfl⟩))
    go_meet
    exact ⟨by rw [HV.out], rfl⟩
  case rest =>
  obtain ⟨rfl, rfl⟩ := hcut
  go_upto_region 3 with fail
  go_cut [5] (fun s wx => s = .bool (timersB c) ∧ w1 = wx)
  case first =>
    cases d0 : inB c.base 1 c.cap
    · as_aux_lemma =>
        have hv : timersB c = false := by simp [timersB, d0]
        have HV := Lib.hid hv
        clear hv
        go_wp2_with (first | (go_at_call 16; refine (in_any _ _ _ _).mono ?_; rintro e w' ⟨rfl, rfl⟩) | (go_at_call 17; refine (shape_any _ _ _ _).mono ?_; rintro e w' ⟨rfl, rfl⟩) | (go_at_call 18; refine (meter_any _ _ _ _ _).mono ?_; rintro e w' ⟨rfl, rfl⟩) | (go_at_call 19; refine (sec_any _ _).mono ?_; rintro e w' ⟨rfl, rfl⟩))
        go_meet
        exact ⟨by rw [HV.out], rfl⟩
    cases d1 : decide (c.cap ≤ 64)
    · as_aux_lemma =>
        have hv : timersB c = false := by simp [timersB, d0, d1]
        have HV := Lib.hid hv
        clear hv
        go_wp2_with (first | (go_at_call 16; refine (in_any _ _ _ _).mono ?_; rintro e w' ⟨rfl, rfl⟩) | (go_at_call 17; refine (shape_any _ _ _ _).mono ?_; rintro e w' ⟨rfl, rfl⟩) | (go_at_call 18; refine (meter_any _ _ _ _ _).mono ?_; rintro e w' ⟨rfl, rfl⟩) | (go_at_call 19; refine (sec_any _ _).mono ?_; rintro e w' ⟨rfl, rfl⟩))
        go_meet
        exact ⟨by rw [HV.out], rfl⟩
    cases d2 : inB c.restart 2 16
    · as_aux_lemma =>
        have hv : timersB c = false := by simp [timersB, d0, d1, d2]
        have HV := Lib.hid hv
        clear hv
        go_wp2_with (first | (go_at_call 16; refine (in_any _ _ _ _).mono ?_; rintro e w' ⟨rfl, rfl⟩) | (go_at_call 17; refine (shape_any _ _ _ _).mono ?_; rintro e w' ⟨rfl, rfl⟩) | (go_at_call 18; refine (meter_any _ _ _ _ _).mono ?_; rintro e w' ⟨rfl, rfl⟩) | (go_at_call 19; refine (sec_any _ _).mono ?_; rintro e w' ⟨rfl, rfl⟩))
        go_meet
        exact ⟨by rw [HV.out], rfl⟩
    have hv : timersB c = inB c.tries 2 10 := by simp [timersB, d0, d1, d2]
    have HV := Lib.hid hv
    clear hv
    go_wp2_with (first | (go_at_call 16; refine (in_any _ _ _ _).mono ?_; rintro e w' ⟨rfl, rfl⟩) | (go_at_call 17; refine (shape_any _ _ _ _).mono ?_; rintro e w' ⟨rfl, rfl⟩) | (go_at_call 18; refine (meter_any _ _ _ _ _).mono ?_; rintro e w' ⟨rfl, rfl⟩) | (go_at_call 19; refine (sec_any _ _).mono ?_; rintro e w' ⟨rfl, rfl⟩))
    go_meet
    exact ⟨by rw [HV.out], rfl⟩
  case rest =>
  obtain ⟨rfl, rfl⟩ := hcut
  go_upto_region 4 with fail
  go_cut [6] (fun s wx => s = .bool (magicsB c) ∧ w1 = wx)
  case first =>
    cases d0 : inB c.ma 1 4294967295
    · as_aux_lemma =>
        have hv : magicsB c = false := by simp [magicsB, d0]
        have HV := Lib.hid hv
        clear hv
        go_wp2_with (first | (go_at_call 16; refine (in_any _ _ _ _).mono ?_; rintro e w' ⟨rfl, rfl⟩) | (go_at_call 17; refine (shape_any _ _ _ _).mono ?_; rintro e w' ⟨rfl, rfl⟩) | (go_at_call 18; refine (meter_any _ _ _ _ _).mono ?_; rintro e w' ⟨rfl, rfl⟩) | (go_at_call 19; refine (sec_any _ _).mono ?_; rintro e w' ⟨rfl, rfl⟩))
        go_meet
        exact ⟨by rw [HV.out], rfl⟩
    cases d1 : inB c.mb 1 4294967295
    · as_aux_lemma =>
        have hv : magicsB c = false := by simp [magicsB, d0, d1]
        have HV := Lib.hid hv
        clear hv
        go_wp2_with (first | (go_at_call 16; refine (in_any _ _ _ _).mono ?_; rintro e w' ⟨rfl, rfl⟩) | (go_at_call 17; refine (shape_any _ _ _ _).mono ?_; rintro e w' ⟨rfl, rfl⟩) | (go_at_call 18; refine (meter_any _ _ _ _ _).mono ?_; rintro e w' ⟨rfl, rfl⟩) | (go_at_call 19; refine (sec_any _ _).mono ?_; rintro e w' ⟨rfl, rfl⟩))
        go_meet
        exact ⟨by rw [HV.out], rfl⟩
    have hv : magicsB c = (c.ma != c.mb) := by simp [magicsB, d0, d1]
    have HV := Lib.hid hv
    clear hv
    go_wp2_with (first | (go_at_call 16; refine (in_any _ _ _ _).mono ?_; rintro e w' ⟨rfl, rfl⟩) | (go_at_call 17; refine (shape_any _ _ _ _).mono ?_; rintro e w' ⟨rfl, rfl⟩) | (go_at_call 18; refine (meter_any _ _ _ _ _).mono ?_; rintro e w' ⟨rfl, rfl⟩) | (go_at_call 19; refine (sec_any _ _).mono ?_; rintro e w' ⟨rfl, rfl⟩))
    go_meet
    exact ⟨by rw [HV.out], rfl⟩
  case rest =>
  obtain ⟨rfl, rfl⟩ := hcut
  go_upto_region 5 with fail
  cases d0 : linksB c
  · as_aux_lemma =>
      have hv : mayB c = false := by simp [mayB, d0]
      have HV := Lib.hid hv
      clear hv
      go_wp2_with (first | (go_at_call 16; refine (in_any _ _ _ _).mono ?_; rintro e w' ⟨rfl, rfl⟩) | (go_at_call 17; refine (shape_any _ _ _ _).mono ?_; rintro e w' ⟨rfl, rfl⟩) | (go_at_call 18; refine (meter_any _ _ _ _ _).mono ?_; rintro e w' ⟨rfl, rfl⟩) | (go_at_call 19; refine (sec_any _ _).mono ?_; rintro e w' ⟨rfl, rfl⟩))
      go_ret
      exact ⟨ret_bool HV.out, ho⟩
  cases d1 : metersB c
  · as_aux_lemma =>
      have hv : mayB c = false := by simp [mayB, d0, d1]
      have HV := Lib.hid hv
      clear hv
      go_wp2_with (first | (go_at_call 16; refine (in_any _ _ _ _).mono ?_; rintro e w' ⟨rfl, rfl⟩) | (go_at_call 17; refine (shape_any _ _ _ _).mono ?_; rintro e w' ⟨rfl, rfl⟩) | (go_at_call 18; refine (meter_any _ _ _ _ _).mono ?_; rintro e w' ⟨rfl, rfl⟩) | (go_at_call 19; refine (sec_any _ _).mono ?_; rintro e w' ⟨rfl, rfl⟩))
      go_ret
      exact ⟨ret_bool HV.out, ho⟩
  cases d2 : timersB c
  · as_aux_lemma =>
      have hv : mayB c = false := by simp [mayB, d0, d1, d2]
      have HV := Lib.hid hv
      clear hv
      go_wp2_with (first | (go_at_call 16; refine (in_any _ _ _ _).mono ?_; rintro e w' ⟨rfl, rfl⟩) | (go_at_call 17; refine (shape_any _ _ _ _).mono ?_; rintro e w' ⟨rfl, rfl⟩) | (go_at_call 18; refine (meter_any _ _ _ _ _).mono ?_; rintro e w' ⟨rfl, rfl⟩) | (go_at_call 19; refine (sec_any _ _).mono ?_; rintro e w' ⟨rfl, rfl⟩))
      go_ret
      exact ⟨ret_bool HV.out, ho⟩
  cases d3 : magicsB c
  · as_aux_lemma =>
      have hv : mayB c = false := by simp [mayB, d0, d1, d2, d3]
      have HV := Lib.hid hv
      clear hv
      go_wp2_with (first | (go_at_call 16; refine (in_any _ _ _ _).mono ?_; rintro e w' ⟨rfl, rfl⟩) | (go_at_call 17; refine (shape_any _ _ _ _).mono ?_; rintro e w' ⟨rfl, rfl⟩) | (go_at_call 18; refine (meter_any _ _ _ _ _).mono ?_; rintro e w' ⟨rfl, rfl⟩) | (go_at_call 19; refine (sec_any _ _).mono ?_; rintro e w' ⟨rfl, rfl⟩))
      go_ret
      exact ⟨ret_bool HV.out, ho⟩
  cases d4 : secB c.sa
  · as_aux_lemma =>
      have hv : mayB c = false := by simp [mayB, d0, d1, d2, d3, d4]
      have HV := Lib.hid hv
      clear hv
      go_wp2_with (first | (go_at_call 16; refine (in_any _ _ _ _).mono ?_; rintro e w' ⟨rfl, rfl⟩) | (go_at_call 17; refine (shape_any _ _ _ _).mono ?_; rintro e w' ⟨rfl, rfl⟩) | (go_at_call 18; refine (meter_any _ _ _ _ _).mono ?_; rintro e w' ⟨rfl, rfl⟩) | (go_at_call 19; refine (sec_any _ _).mono ?_; rintro e w' ⟨rfl, rfl⟩))
      go_ret
      exact ⟨ret_bool HV.out, ho⟩
  cases d5 : secB c.sb
  · as_aux_lemma =>
      have hv : mayB c = false := by simp [mayB, d0, d1, d2, d3, d4, d5]
      have HV := Lib.hid hv
      clear hv
      go_wp2_with (first | (go_at_call 16; refine (in_any _ _ _ _).mono ?_; rintro e w' ⟨rfl, rfl⟩) | (go_at_call 17; refine (shape_any _ _ _ _).mono ?_; rintro e w' ⟨rfl, rfl⟩) | (go_at_call 18; refine (meter_any _ _ _ _ _).mono ?_; rintro e w' ⟨rfl, rfl⟩) | (go_at_call 19; refine (sec_any _ _).mono ?_; rintro e w' ⟨rfl, rfl⟩))
      go_ret
      exact ⟨ret_bool HV.out, ho⟩
  have hv : mayB c = secB c.ex := by simp [mayB, d0, d1, d2, d3, d4, d5]
  have HV := Lib.hid hv
  clear hv
  go_wp2_with (first | (go_at_call 16; refine (in_any _ _ _ _).mono ?_; rintro e w' ⟨rfl, rfl⟩) | (go_at_call 17; refine (shape_any _ _ _ _).mono ?_; rintro e w' ⟨rfl, rfl⟩) | (go_at_call 18; refine (meter_any _ _ _ _ _).mono ?_; rintro e w' ⟨rfl, rfl⟩) | (go_at_call 19; refine (sec_any _ _).mono ?_; rintro e w' ⟨rfl, rfl⟩))
  go_ret
  exact ⟨ret_bool HV.out, ho⟩
set_option maxRecDepth 100000 in
set_option maxHeartbeats 4000000 in
theorem rmay_any (c : Cfg) (w : World) : Calls Try.prog 11 #[.agg (cells c)] w fun e w' => e = .returned (.bool (rMayB c)) ∧ Only [] w w' := by
  have ho : Only [] w (w.alloc (.cells #[.int .i64 c.ports, .int .i64 c.links, .int .i64 c.least, .int .i64 c.rate, .int .i64 c.window, .int .i64 c.high, .int .i64 c.low, .int .i64 c.hold, .int .i64 c.base, .int .i64 c.cap, .int .i64 c.restart, .int .i64 c.tries, .bool c.short, .string c.sa, .string c.sb, .string c.ex, .int .i64 c.ma, .int .i64 c.mb] 23)) := (Only.refl _ _).alloc _
  unfold cells
  have c0 : (w.alloc (.cells #[.int .i64 c.ports, .int .i64 c.links, .int .i64 c.least, .int .i64 c.rate, .int .i64 c.window, .int .i64 c.high, .int .i64 c.low, .int .i64 c.hold, .int .i64 c.base, .int .i64 c.cap, .int .i64 c.restart, .int .i64 c.tries, .bool c.short, .string c.sa, .string c.sb, .string c.ex, .int .i64 c.ma, .int .i64 c.mb] 23)).cell? ⟨w.heap.size, 0, none⟩ = some (.int .i64 c.ports) := by simp [World.cell?_alloc_new]
  have c1 : (w.alloc (.cells #[.int .i64 c.ports, .int .i64 c.links, .int .i64 c.least, .int .i64 c.rate, .int .i64 c.window, .int .i64 c.high, .int .i64 c.low, .int .i64 c.hold, .int .i64 c.base, .int .i64 c.cap, .int .i64 c.restart, .int .i64 c.tries, .bool c.short, .string c.sa, .string c.sb, .string c.ex, .int .i64 c.ma, .int .i64 c.mb] 23)).cell? ⟨w.heap.size, 1, none⟩ = some (.int .i64 c.links) := by simp [World.cell?_alloc_new]
  have c2 : (w.alloc (.cells #[.int .i64 c.ports, .int .i64 c.links, .int .i64 c.least, .int .i64 c.rate, .int .i64 c.window, .int .i64 c.high, .int .i64 c.low, .int .i64 c.hold, .int .i64 c.base, .int .i64 c.cap, .int .i64 c.restart, .int .i64 c.tries, .bool c.short, .string c.sa, .string c.sb, .string c.ex, .int .i64 c.ma, .int .i64 c.mb] 23)).cell? ⟨w.heap.size, 2, none⟩ = some (.int .i64 c.least) := by simp [World.cell?_alloc_new]
  have c3 : (w.alloc (.cells #[.int .i64 c.ports, .int .i64 c.links, .int .i64 c.least, .int .i64 c.rate, .int .i64 c.window, .int .i64 c.high, .int .i64 c.low, .int .i64 c.hold, .int .i64 c.base, .int .i64 c.cap, .int .i64 c.restart, .int .i64 c.tries, .bool c.short, .string c.sa, .string c.sb, .string c.ex, .int .i64 c.ma, .int .i64 c.mb] 23)).cell? ⟨w.heap.size, 3, none⟩ = some (.int .i64 c.rate) := by simp [World.cell?_alloc_new]
  have c4 : (w.alloc (.cells #[.int .i64 c.ports, .int .i64 c.links, .int .i64 c.least, .int .i64 c.rate, .int .i64 c.window, .int .i64 c.high, .int .i64 c.low, .int .i64 c.hold, .int .i64 c.base, .int .i64 c.cap, .int .i64 c.restart, .int .i64 c.tries, .bool c.short, .string c.sa, .string c.sb, .string c.ex, .int .i64 c.ma, .int .i64 c.mb] 23)).cell? ⟨w.heap.size, 4, none⟩ = some (.int .i64 c.window) := by simp [World.cell?_alloc_new]
  have c5 : (w.alloc (.cells #[.int .i64 c.ports, .int .i64 c.links, .int .i64 c.least, .int .i64 c.rate, .int .i64 c.window, .int .i64 c.high, .int .i64 c.low, .int .i64 c.hold, .int .i64 c.base, .int .i64 c.cap, .int .i64 c.restart, .int .i64 c.tries, .bool c.short, .string c.sa, .string c.sb, .string c.ex, .int .i64 c.ma, .int .i64 c.mb] 23)).cell? ⟨w.heap.size, 5, none⟩ = some (.int .i64 c.high) := by simp [World.cell?_alloc_new]
  have c6 : (w.alloc (.cells #[.int .i64 c.ports, .int .i64 c.links, .int .i64 c.least, .int .i64 c.rate, .int .i64 c.window, .int .i64 c.high, .int .i64 c.low, .int .i64 c.hold, .int .i64 c.base, .int .i64 c.cap, .int .i64 c.restart, .int .i64 c.tries, .bool c.short, .string c.sa, .string c.sb, .string c.ex, .int .i64 c.ma, .int .i64 c.mb] 23)).cell? ⟨w.heap.size, 6, none⟩ = some (.int .i64 c.low) := by simp [World.cell?_alloc_new]
  have c7 : (w.alloc (.cells #[.int .i64 c.ports, .int .i64 c.links, .int .i64 c.least, .int .i64 c.rate, .int .i64 c.window, .int .i64 c.high, .int .i64 c.low, .int .i64 c.hold, .int .i64 c.base, .int .i64 c.cap, .int .i64 c.restart, .int .i64 c.tries, .bool c.short, .string c.sa, .string c.sb, .string c.ex, .int .i64 c.ma, .int .i64 c.mb] 23)).cell? ⟨w.heap.size, 7, none⟩ = some (.int .i64 c.hold) := by simp [World.cell?_alloc_new]
  have c8 : (w.alloc (.cells #[.int .i64 c.ports, .int .i64 c.links, .int .i64 c.least, .int .i64 c.rate, .int .i64 c.window, .int .i64 c.high, .int .i64 c.low, .int .i64 c.hold, .int .i64 c.base, .int .i64 c.cap, .int .i64 c.restart, .int .i64 c.tries, .bool c.short, .string c.sa, .string c.sb, .string c.ex, .int .i64 c.ma, .int .i64 c.mb] 23)).cell? ⟨w.heap.size, 8, none⟩ = some (.int .i64 c.base) := by simp [World.cell?_alloc_new]
  have c9 : (w.alloc (.cells #[.int .i64 c.ports, .int .i64 c.links, .int .i64 c.least, .int .i64 c.rate, .int .i64 c.window, .int .i64 c.high, .int .i64 c.low, .int .i64 c.hold, .int .i64 c.base, .int .i64 c.cap, .int .i64 c.restart, .int .i64 c.tries, .bool c.short, .string c.sa, .string c.sb, .string c.ex, .int .i64 c.ma, .int .i64 c.mb] 23)).cell? ⟨w.heap.size, 9, none⟩ = some (.int .i64 c.cap) := by simp [World.cell?_alloc_new]
  have c10 : (w.alloc (.cells #[.int .i64 c.ports, .int .i64 c.links, .int .i64 c.least, .int .i64 c.rate, .int .i64 c.window, .int .i64 c.high, .int .i64 c.low, .int .i64 c.hold, .int .i64 c.base, .int .i64 c.cap, .int .i64 c.restart, .int .i64 c.tries, .bool c.short, .string c.sa, .string c.sb, .string c.ex, .int .i64 c.ma, .int .i64 c.mb] 23)).cell? ⟨w.heap.size, 10, none⟩ = some (.int .i64 c.restart) := by simp [World.cell?_alloc_new]
  have c11 : (w.alloc (.cells #[.int .i64 c.ports, .int .i64 c.links, .int .i64 c.least, .int .i64 c.rate, .int .i64 c.window, .int .i64 c.high, .int .i64 c.low, .int .i64 c.hold, .int .i64 c.base, .int .i64 c.cap, .int .i64 c.restart, .int .i64 c.tries, .bool c.short, .string c.sa, .string c.sb, .string c.ex, .int .i64 c.ma, .int .i64 c.mb] 23)).cell? ⟨w.heap.size, 11, none⟩ = some (.int .i64 c.tries) := by simp [World.cell?_alloc_new]
  have c12 : (w.alloc (.cells #[.int .i64 c.ports, .int .i64 c.links, .int .i64 c.least, .int .i64 c.rate, .int .i64 c.window, .int .i64 c.high, .int .i64 c.low, .int .i64 c.hold, .int .i64 c.base, .int .i64 c.cap, .int .i64 c.restart, .int .i64 c.tries, .bool c.short, .string c.sa, .string c.sb, .string c.ex, .int .i64 c.ma, .int .i64 c.mb] 23)).cell? ⟨w.heap.size, 12, none⟩ = some (.bool c.short) := by simp [World.cell?_alloc_new]
  have c13 : (w.alloc (.cells #[.int .i64 c.ports, .int .i64 c.links, .int .i64 c.least, .int .i64 c.rate, .int .i64 c.window, .int .i64 c.high, .int .i64 c.low, .int .i64 c.hold, .int .i64 c.base, .int .i64 c.cap, .int .i64 c.restart, .int .i64 c.tries, .bool c.short, .string c.sa, .string c.sb, .string c.ex, .int .i64 c.ma, .int .i64 c.mb] 23)).cell? ⟨w.heap.size, 13, none⟩ = some (.string c.sa) := by simp [World.cell?_alloc_new]
  have c14 : (w.alloc (.cells #[.int .i64 c.ports, .int .i64 c.links, .int .i64 c.least, .int .i64 c.rate, .int .i64 c.window, .int .i64 c.high, .int .i64 c.low, .int .i64 c.hold, .int .i64 c.base, .int .i64 c.cap, .int .i64 c.restart, .int .i64 c.tries, .bool c.short, .string c.sa, .string c.sb, .string c.ex, .int .i64 c.ma, .int .i64 c.mb] 23)).cell? ⟨w.heap.size, 14, none⟩ = some (.string c.sb) := by simp [World.cell?_alloc_new]
  have c15 : (w.alloc (.cells #[.int .i64 c.ports, .int .i64 c.links, .int .i64 c.least, .int .i64 c.rate, .int .i64 c.window, .int .i64 c.high, .int .i64 c.low, .int .i64 c.hold, .int .i64 c.base, .int .i64 c.cap, .int .i64 c.restart, .int .i64 c.tries, .bool c.short, .string c.sa, .string c.sb, .string c.ex, .int .i64 c.ma, .int .i64 c.mb] 23)).cell? ⟨w.heap.size, 15, none⟩ = some (.string c.ex) := by simp [World.cell?_alloc_new]
  have c16 : (w.alloc (.cells #[.int .i64 c.ports, .int .i64 c.links, .int .i64 c.least, .int .i64 c.rate, .int .i64 c.window, .int .i64 c.high, .int .i64 c.low, .int .i64 c.hold, .int .i64 c.base, .int .i64 c.cap, .int .i64 c.restart, .int .i64 c.tries, .bool c.short, .string c.sa, .string c.sb, .string c.ex, .int .i64 c.ma, .int .i64 c.mb] 23)).cell? ⟨w.heap.size, 16, none⟩ = some (.int .i64 c.ma) := by simp [World.cell?_alloc_new]
  have c17 : (w.alloc (.cells #[.int .i64 c.ports, .int .i64 c.links, .int .i64 c.least, .int .i64 c.rate, .int .i64 c.window, .int .i64 c.high, .int .i64 c.low, .int .i64 c.hold, .int .i64 c.base, .int .i64 c.cap, .int .i64 c.restart, .int .i64 c.tries, .bool c.short, .string c.sa, .string c.sb, .string c.ex, .int .i64 c.ma, .int .i64 c.mb] 23)).cell? ⟨w.heap.size, 17, none⟩ = some (.int .i64 c.mb) := by simp [World.cell?_alloc_new]
  go_enter Try.func11, Try.ntmps11
  go_upto_region 1 with fail
  generalize World.alloc _ _ = w1 at *
  generalize w.heap.size = B at *
  go_cut [3] (fun s wx => s = .bool (rSizeB c) ∧ w1 = wx)
  case first =>
    by_cases hp : 6 < c.ports
    · have hm : min c.ports 6 = 6 := by omega
      have HM := Lib.hid hm
      clear hm
      cases d0 : decide (1 ≤ c.ports)
      · as_aux_lemma =>
          have hv : rSizeB c = false := by simp [rSizeB, HM.out, d0]
          have HV := Lib.hid hv
          clear hv
          go_wp2_with (first | (go_at_call 20; refine (rsec_any _ _).mono ?_; rintro e w' ⟨rfl, rfl⟩) | (go_at_call 21; refine (mag_any _ _).mono ?_; rintro e w' ⟨rfl, rfl⟩))
          go_meet
          exact ⟨by rw [HV.out], rfl⟩
      cases d1 : decide (c.ports ≤ 8)
      · as_aux_lemma =>
          have hv : rSizeB c = false := by simp [rSizeB, HM.out, d0, d1]
          have HV := Lib.hid hv
          clear hv
          go_wp2_with (first | (go_at_call 20; refine (rsec_any _ _).mono ?_; rintro e w' ⟨rfl, rfl⟩) | (go_at_call 21; refine (mag_any _ _).mono ?_; rintro e w' ⟨rfl, rfl⟩))
          go_meet
          exact ⟨by rw [HV.out], rfl⟩
      cases d2 : decide (1 ≤ c.links)
      · as_aux_lemma =>
          have hv : rSizeB c = false := by simp [rSizeB, HM.out, d0, d1, d2]
          have HV := Lib.hid hv
          clear hv
          go_wp2_with (first | (go_at_call 20; refine (rsec_any _ _).mono ?_; rintro e w' ⟨rfl, rfl⟩) | (go_at_call 21; refine (mag_any _ _).mono ?_; rintro e w' ⟨rfl, rfl⟩))
          go_meet
          exact ⟨by rw [HV.out], rfl⟩
      cases d3 : decide (c.links ≤ 6)
      · as_aux_lemma =>
          have hv : rSizeB c = false := by simp [rSizeB, HM.out, d0, d1, d2, d3]
          have HV := Lib.hid hv
          clear hv
          go_wp2_with (first | (go_at_call 20; refine (rsec_any _ _).mono ?_; rintro e w' ⟨rfl, rfl⟩) | (go_at_call 21; refine (mag_any _ _).mono ?_; rintro e w' ⟨rfl, rfl⟩))
          go_meet
          exact ⟨by rw [HV.out], rfl⟩
      cases d4 : decide (1 ≤ c.least)
      · as_aux_lemma =>
          have hv : rSizeB c = false := by simp [rSizeB, HM.out, d0, d1, d2, d3, d4]
          have HV := Lib.hid hv
          clear hv
          go_wp2_with (first | (go_at_call 20; refine (rsec_any _ _).mono ?_; rintro e w' ⟨rfl, rfl⟩) | (go_at_call 21; refine (mag_any _ _).mono ?_; rintro e w' ⟨rfl, rfl⟩))
          go_meet
          exact ⟨by rw [HV.out], rfl⟩
      cases d5 : decide (c.least ≤ c.links)
      · as_aux_lemma =>
          have hv : rSizeB c = false := by simp [rSizeB, HM.out, d0, d1, d2, d3, d4, d5]
          have HV := Lib.hid hv
          clear hv
          go_wp2_with (first | (go_at_call 20; refine (rsec_any _ _).mono ?_; rintro e w' ⟨rfl, rfl⟩) | (go_at_call 21; refine (mag_any _ _).mono ?_; rintro e w' ⟨rfl, rfl⟩))
          go_meet
          exact ⟨by rw [HV.out], rfl⟩
      cases d6 : decide (64 ≤ c.rate)
      · as_aux_lemma =>
          have hv : rSizeB c = false := by simp [rSizeB, HM.out, d0, d1, d2, d3, d4, d5, d6]
          have HV := Lib.hid hv
          clear hv
          go_wp2_with (first | (go_at_call 20; refine (rsec_any _ _).mono ?_; rintro e w' ⟨rfl, rfl⟩) | (go_at_call 21; refine (mag_any _ _).mono ?_; rintro e w' ⟨rfl, rfl⟩))
          go_meet
          exact ⟨by rw [HV.out], rfl⟩
      cases d7 : decide (c.rate ≤ 4096)
      · as_aux_lemma =>
          have hv : rSizeB c = false := by simp [rSizeB, HM.out, d0, d1, d2, d3, d4, d5, d6, d7]
          have HV := Lib.hid hv
          clear hv
          go_wp2_with (first | (go_at_call 20; refine (rsec_any _ _).mono ?_; rintro e w' ⟨rfl, rfl⟩) | (go_at_call 21; refine (mag_any _ _).mono ?_; rintro e w' ⟨rfl, rfl⟩))
          go_meet
          exact ⟨by rw [HV.out], rfl⟩
      cases d8 : decide (1 ≤ c.window)
      · as_aux_lemma =>
          have hv : rSizeB c = false := by simp [rSizeB, HM.out, d0, d1, d2, d3, d4, d5, d6, d7, d8]
          have HV := Lib.hid hv
          clear hv
          go_wp2_with (first | (go_at_call 20; refine (rsec_any _ _).mono ?_; rintro e w' ⟨rfl, rfl⟩) | (go_at_call 21; refine (mag_any _ _).mono ?_; rintro e w' ⟨rfl, rfl⟩))
          go_meet
          exact ⟨by rw [HV.out], rfl⟩
      have hv : rSizeB c = decide (c.window ≤ 64) := by simp [rSizeB, HM.out, d0, d1, d2, d3, d4, d5, d6, d7, d8]
      have HV := Lib.hid hv
      clear hv
      go_wp2_with (first | (go_at_call 20; refine (rsec_any _ _).mono ?_; rintro e w' ⟨rfl, rfl⟩) | (go_at_call 21; refine (mag_any _ _).mono ?_; rintro e w' ⟨rfl, rfl⟩))
      go_meet
      exact ⟨by rw [HV.out], rfl⟩
    · have hm : min c.ports 6 = c.ports := by omega
      have HM := Lib.hid hm
      clear hm
      cases d0 : decide (1 ≤ c.ports)
      · as_aux_lemma =>
          have hv : rSizeB c = false := by simp [rSizeB, HM.out, d0]
          have HV := Lib.hid hv
          clear hv
          go_wp2_with (first | (go_at_call 20; refine (rsec_any _ _).mono ?_; rintro e w' ⟨rfl, rfl⟩) | (go_at_call 21; refine (mag_any _ _).mono ?_; rintro e w' ⟨rfl, rfl⟩))
          go_meet
          exact ⟨by rw [HV.out], rfl⟩
      cases d1 : decide (c.ports ≤ 8)
      · as_aux_lemma =>
          have hv : rSizeB c = false := by simp [rSizeB, HM.out, d0, d1]
          have HV := Lib.hid hv
          clear hv
          go_wp2_with (first | (go_at_call 20; refine (rsec_any _ _).mono ?_; rintro e w' ⟨rfl, rfl⟩) | (go_at_call 21; refine (mag_any _ _).mono ?_; rintro e w' ⟨rfl, rfl⟩))
          go_meet
          exact ⟨by rw [HV.out], rfl⟩
      cases d2 : decide (1 ≤ c.links)
      · as_aux_lemma =>
          have hv : rSizeB c = false := by simp [rSizeB, HM.out, d0, d1, d2]
          have HV := Lib.hid hv
          clear hv
          go_wp2_with (first | (go_at_call 20; refine (rsec_any _ _).mono ?_; rintro e w' ⟨rfl, rfl⟩) | (go_at_call 21; refine (mag_any _ _).mono ?_; rintro e w' ⟨rfl, rfl⟩))
          go_meet
          exact ⟨by rw [HV.out], rfl⟩
      cases d3 : decide (c.links ≤ c.ports)
      · as_aux_lemma =>
          have hv : rSizeB c = false := by simp [rSizeB, HM.out, d0, d1, d2, d3]
          have HV := Lib.hid hv
          clear hv
          go_wp2_with (first | (go_at_call 20; refine (rsec_any _ _).mono ?_; rintro e w' ⟨rfl, rfl⟩) | (go_at_call 21; refine (mag_any _ _).mono ?_; rintro e w' ⟨rfl, rfl⟩))
          go_meet
          exact ⟨by rw [HV.out], rfl⟩
      cases d4 : decide (1 ≤ c.least)
      · as_aux_lemma =>
          have hv : rSizeB c = false := by simp [rSizeB, HM.out, d0, d1, d2, d3, d4]
          have HV := Lib.hid hv
          clear hv
          go_wp2_with (first | (go_at_call 20; refine (rsec_any _ _).mono ?_; rintro e w' ⟨rfl, rfl⟩) | (go_at_call 21; refine (mag_any _ _).mono ?_; rintro e w' ⟨rfl, rfl⟩))
          go_meet
          exact ⟨by rw [HV.out], rfl⟩
      cases d5 : decide (c.least ≤ c.links)
      · as_aux_lemma =>
          have hv : rSizeB c = false := by simp [rSizeB, HM.out, d0, d1, d2, d3, d4, d5]
          have HV := Lib.hid hv
          clear hv
          go_wp2_with (first | (go_at_call 20; refine (rsec_any _ _).mono ?_; rintro e w' ⟨rfl, rfl⟩) | (go_at_call 21; refine (mag_any _ _).mono ?_; rintro e w' ⟨rfl, rfl⟩))
          go_meet
          exact ⟨by rw [HV.out], rfl⟩
      cases d6 : decide (64 ≤ c.rate)
      · as_aux_lemma =>
          have hv : rSizeB c = false := by simp [rSizeB, HM.out, d0, d1, d2, d3, d4, d5, d6]
          have HV := Lib.hid hv
          clear hv
          go_wp2_with (first | (go_at_call 20; refine (rsec_any _ _).mono ?_; rintro e w' ⟨rfl, rfl⟩) | (go_at_call 21; refine (mag_any _ _).mono ?_; rintro e w' ⟨rfl, rfl⟩))
          go_meet
          exact ⟨by rw [HV.out], rfl⟩
      cases d7 : decide (c.rate ≤ 4096)
      · as_aux_lemma =>
          have hv : rSizeB c = false := by simp [rSizeB, HM.out, d0, d1, d2, d3, d4, d5, d6, d7]
          have HV := Lib.hid hv
          clear hv
          go_wp2_with (first | (go_at_call 20; refine (rsec_any _ _).mono ?_; rintro e w' ⟨rfl, rfl⟩) | (go_at_call 21; refine (mag_any _ _).mono ?_; rintro e w' ⟨rfl, rfl⟩))
          go_meet
          exact ⟨by rw [HV.out], rfl⟩
      cases d8 : decide (1 ≤ c.window)
      · as_aux_lemma =>
          have hv : rSizeB c = false := by simp [rSizeB, HM.out, d0, d1, d2, d3, d4, d5, d6, d7, d8]
          have HV := Lib.hid hv
          clear hv
          go_wp2_with (first | (go_at_call 20; refine (rsec_any _ _).mono ?_; rintro e w' ⟨rfl, rfl⟩) | (go_at_call 21; refine (mag_any _ _).mono ?_; rintro e w' ⟨rfl, rfl⟩))
          go_meet
          exact ⟨by rw [HV.out], rfl⟩
      have hv : rSizeB c = decide (c.window ≤ 64) := by simp [rSizeB, HM.out, d0, d1, d2, d3, d4, d5, d6, d7, d8]
      have HV := Lib.hid hv
      clear hv
      go_wp2_with (first | (go_at_call 20; refine (rsec_any _ _).mono ?_; rintro e w' ⟨rfl, rfl⟩) | (go_at_call 21; refine (mag_any _ _).mono ?_; rintro e w' ⟨rfl, rfl⟩))
      go_meet
      exact ⟨by rw [HV.out], rfl⟩
  case rest =>
  obtain ⟨rfl, rfl⟩ := hcut
  go_upto_region 2 with fail
  go_cut [4] (fun s wx => s = .bool (rShareB c) ∧ w1 = wx)
  case first =>
    cases d0 : decide (1 ≤ c.high)
    · as_aux_lemma =>
        have hv : rShareB c = false := by simp [rShareB, d0]
        have HV := Lib.hid hv
        clear hv
        go_wp2_with (first | (go_at_call 20; refine (rsec_any _ _).mono ?_; rintro e w' ⟨rfl, rfl⟩) | (go_at_call 21; refine (mag_any _ _).mono ?_; rintro e w' ⟨rfl, rfl⟩))
        go_meet
        exact ⟨by rw [HV.out], rfl⟩
    cases d1 : decide (c.high ≤ 1000)
    · as_aux_lemma =>
        have hv : rShareB c = false := by simp [rShareB, d0, d1]
        have HV := Lib.hid hv
        clear hv
        go_wp2_with (first | (go_at_call 20; refine (rsec_any _ _).mono ?_; rintro e w' ⟨rfl, rfl⟩) | (go_at_call 21; refine (mag_any _ _).mono ?_; rintro e w' ⟨rfl, rfl⟩))
        go_meet
        exact ⟨by rw [HV.out], rfl⟩
    cases d2 : decide (0 ≤ c.low)
    · as_aux_lemma =>
        have hv : rShareB c = false := by simp [rShareB, d0, d1, d2]
        have HV := Lib.hid hv
        clear hv
        go_wp2_with (first | (go_at_call 20; refine (rsec_any _ _).mono ?_; rintro e w' ⟨rfl, rfl⟩) | (go_at_call 21; refine (mag_any _ _).mono ?_; rintro e w' ⟨rfl, rfl⟩))
        go_meet
        exact ⟨by rw [HV.out], rfl⟩
    cases d3 : decide (c.low < c.high)
    · as_aux_lemma =>
        have hv : rShareB c = false := by simp [rShareB, d0, d1, d2, d3]
        have HV := Lib.hid hv
        clear hv
        go_wp2_with (first | (go_at_call 20; refine (rsec_any _ _).mono ?_; rintro e w' ⟨rfl, rfl⟩) | (go_at_call 21; refine (mag_any _ _).mono ?_; rintro e w' ⟨rfl, rfl⟩))
        go_meet
        exact ⟨by rw [HV.out], rfl⟩
    cases d4 : decide (1 ≤ c.hold)
    · as_aux_lemma =>
        have hv : rShareB c = false := by simp [rShareB, d0, d1, d2, d3, d4]
        have HV := Lib.hid hv
        clear hv
        go_wp2_with (first | (go_at_call 20; refine (rsec_any _ _).mono ?_; rintro e w' ⟨rfl, rfl⟩) | (go_at_call 21; refine (mag_any _ _).mono ?_; rintro e w' ⟨rfl, rfl⟩))
        go_meet
        exact ⟨by rw [HV.out], rfl⟩
    have hv : rShareB c = decide (c.hold ≤ 64) := by simp [rShareB, d0, d1, d2, d3, d4]
    have HV := Lib.hid hv
    clear hv
    go_wp2_with (first | (go_at_call 20; refine (rsec_any _ _).mono ?_; rintro e w' ⟨rfl, rfl⟩) | (go_at_call 21; refine (mag_any _ _).mono ?_; rintro e w' ⟨rfl, rfl⟩))
    go_meet
    exact ⟨by rw [HV.out], rfl⟩
  case rest =>
  obtain ⟨rfl, rfl⟩ := hcut
  go_upto_region 3 with fail
  go_cut [5] (fun s wx => s = .bool (rTimeB c) ∧ w1 = wx)
  case first =>
    cases d0 : decide (1 ≤ c.base)
    · as_aux_lemma =>
        have hv : rTimeB c = false := by simp [rTimeB, d0]
        have HV := Lib.hid hv
        clear hv
        go_wp2_with (first | (go_at_call 20; refine (rsec_any _ _).mono ?_; rintro e w' ⟨rfl, rfl⟩) | (go_at_call 21; refine (mag_any _ _).mono ?_; rintro e w' ⟨rfl, rfl⟩))
        go_meet
        exact ⟨by rw [HV.out], rfl⟩
    cases d1 : decide (c.base ≤ c.cap)
    · as_aux_lemma =>
        have hv : rTimeB c = false := by simp [rTimeB, d0, d1]
        have HV := Lib.hid hv
        clear hv
        go_wp2_with (first | (go_at_call 20; refine (rsec_any _ _).mono ?_; rintro e w' ⟨rfl, rfl⟩) | (go_at_call 21; refine (mag_any _ _).mono ?_; rintro e w' ⟨rfl, rfl⟩))
        go_meet
        exact ⟨by rw [HV.out], rfl⟩
    cases d2 : decide (c.cap ≤ 64)
    · as_aux_lemma =>
        have hv : rTimeB c = false := by simp [rTimeB, d0, d1, d2]
        have HV := Lib.hid hv
        clear hv
        go_wp2_with (first | (go_at_call 20; refine (rsec_any _ _).mono ?_; rintro e w' ⟨rfl, rfl⟩) | (go_at_call 21; refine (mag_any _ _).mono ?_; rintro e w' ⟨rfl, rfl⟩))
        go_meet
        exact ⟨by rw [HV.out], rfl⟩
    cases d3 : decide (2 ≤ c.restart)
    · as_aux_lemma =>
        have hv : rTimeB c = false := by simp [rTimeB, d0, d1, d2, d3]
        have HV := Lib.hid hv
        clear hv
        go_wp2_with (first | (go_at_call 20; refine (rsec_any _ _).mono ?_; rintro e w' ⟨rfl, rfl⟩) | (go_at_call 21; refine (mag_any _ _).mono ?_; rintro e w' ⟨rfl, rfl⟩))
        go_meet
        exact ⟨by rw [HV.out], rfl⟩
    cases d4 : decide (c.restart ≤ 16)
    · as_aux_lemma =>
        have hv : rTimeB c = false := by simp [rTimeB, d0, d1, d2, d3, d4]
        have HV := Lib.hid hv
        clear hv
        go_wp2_with (first | (go_at_call 20; refine (rsec_any _ _).mono ?_; rintro e w' ⟨rfl, rfl⟩) | (go_at_call 21; refine (mag_any _ _).mono ?_; rintro e w' ⟨rfl, rfl⟩))
        go_meet
        exact ⟨by rw [HV.out], rfl⟩
    cases d5 : decide (2 ≤ c.tries)
    · as_aux_lemma =>
        have hv : rTimeB c = false := by simp [rTimeB, d0, d1, d2, d3, d4, d5]
        have HV := Lib.hid hv
        clear hv
        go_wp2_with (first | (go_at_call 20; refine (rsec_any _ _).mono ?_; rintro e w' ⟨rfl, rfl⟩) | (go_at_call 21; refine (mag_any _ _).mono ?_; rintro e w' ⟨rfl, rfl⟩))
        go_meet
        exact ⟨by rw [HV.out], rfl⟩
    have hv : rTimeB c = decide (c.tries ≤ 10) := by simp [rTimeB, d0, d1, d2, d3, d4, d5]
    have HV := Lib.hid hv
    clear hv
    go_wp2_with (first | (go_at_call 20; refine (rsec_any _ _).mono ?_; rintro e w' ⟨rfl, rfl⟩) | (go_at_call 21; refine (mag_any _ _).mono ?_; rintro e w' ⟨rfl, rfl⟩))
    go_meet
    exact ⟨by rw [HV.out], rfl⟩
  case rest =>
  obtain ⟨rfl, rfl⟩ := hcut
  go_upto_region 4 with fail
  go_cut [6] (fun s wx => s = .bool (rSecB c) ∧ w1 = wx)
  case first =>
    cases d0 : secB c.sa
    · as_aux_lemma =>
        have hv : rSecB c = false := by simp [rSecB, d0]
        have HV := Lib.hid hv
        clear hv
        go_wp2_with (first | (go_at_call 20; refine (rsec_any _ _).mono ?_; rintro e w' ⟨rfl, rfl⟩) | (go_at_call 21; refine (mag_any _ _).mono ?_; rintro e w' ⟨rfl, rfl⟩))
        go_meet
        exact ⟨by rw [HV.out], rfl⟩
    cases d1 : secB c.sb
    · as_aux_lemma =>
        have hv : rSecB c = false := by simp [rSecB, d0, d1]
        have HV := Lib.hid hv
        clear hv
        go_wp2_with (first | (go_at_call 20; refine (rsec_any _ _).mono ?_; rintro e w' ⟨rfl, rfl⟩) | (go_at_call 21; refine (mag_any _ _).mono ?_; rintro e w' ⟨rfl, rfl⟩))
        go_meet
        exact ⟨by rw [HV.out], rfl⟩
    have hv : rSecB c = secB c.ex := by simp [rSecB, d0, d1]
    have HV := Lib.hid hv
    clear hv
    go_wp2_with (first | (go_at_call 20; refine (rsec_any _ _).mono ?_; rintro e w' ⟨rfl, rfl⟩) | (go_at_call 21; refine (mag_any _ _).mono ?_; rintro e w' ⟨rfl, rfl⟩))
    go_meet
    exact ⟨by rw [HV.out], rfl⟩
  case rest =>
  obtain ⟨rfl, rfl⟩ := hcut
  go_upto_region 5 with fail
  cases d0 : rSizeB c
  · as_aux_lemma =>
      have hv : rMayB c = false := by simp [rMayB, d0]
      have HV := Lib.hid hv
      clear hv
      go_wp2_with (first | (go_at_call 20; refine (rsec_any _ _).mono ?_; rintro e w' ⟨rfl, rfl⟩) | (go_at_call 21; refine (mag_any _ _).mono ?_; rintro e w' ⟨rfl, rfl⟩))
      go_ret
      exact ⟨ret_bool HV.out, ho⟩
  cases d1 : rShareB c
  · as_aux_lemma =>
      have hv : rMayB c = false := by simp [rMayB, d0, d1]
      have HV := Lib.hid hv
      clear hv
      go_wp2_with (first | (go_at_call 20; refine (rsec_any _ _).mono ?_; rintro e w' ⟨rfl, rfl⟩) | (go_at_call 21; refine (mag_any _ _).mono ?_; rintro e w' ⟨rfl, rfl⟩))
      go_ret
      exact ⟨ret_bool HV.out, ho⟩
  cases d2 : rTimeB c
  · as_aux_lemma =>
      have hv : rMayB c = false := by simp [rMayB, d0, d1, d2]
      have HV := Lib.hid hv
      clear hv
      go_wp2_with (first | (go_at_call 20; refine (rsec_any _ _).mono ?_; rintro e w' ⟨rfl, rfl⟩) | (go_at_call 21; refine (mag_any _ _).mono ?_; rintro e w' ⟨rfl, rfl⟩))
      go_ret
      exact ⟨ret_bool HV.out, ho⟩
  cases d3 : rSecB c
  · as_aux_lemma =>
      have hv : rMayB c = false := by simp [rMayB, d0, d1, d2, d3]
      have HV := Lib.hid hv
      clear hv
      go_wp2_with (first | (go_at_call 20; refine (rsec_any _ _).mono ?_; rintro e w' ⟨rfl, rfl⟩) | (go_at_call 21; refine (mag_any _ _).mono ?_; rintro e w' ⟨rfl, rfl⟩))
      go_ret
      exact ⟨ret_bool HV.out, ho⟩
  cases d4 : magB c.ma
  · as_aux_lemma =>
      have hv : rMayB c = false := by simp [rMayB, d0, d1, d2, d3, d4]
      have HV := Lib.hid hv
      clear hv
      go_wp2_with (first | (go_at_call 20; refine (rsec_any _ _).mono ?_; rintro e w' ⟨rfl, rfl⟩) | (go_at_call 21; refine (mag_any _ _).mono ?_; rintro e w' ⟨rfl, rfl⟩))
      go_ret
      exact ⟨ret_bool HV.out, ho⟩
  cases d5 : magB c.mb
  · as_aux_lemma =>
      have hv : rMayB c = false := by simp [rMayB, d0, d1, d2, d3, d4, d5]
      have HV := Lib.hid hv
      clear hv
      go_wp2_with (first | (go_at_call 20; refine (rsec_any _ _).mono ?_; rintro e w' ⟨rfl, rfl⟩) | (go_at_call 21; refine (mag_any _ _).mono ?_; rintro e w' ⟨rfl, rfl⟩))
      go_ret
      exact ⟨ret_bool HV.out, ho⟩
  have hv : rMayB c = (c.ma != c.mb) := by simp [rMayB, d0, d1, d2, d3, d4, d5]
  have HV := Lib.hid hv
  clear hv
  go_wp2_with (first | (go_at_call 20; refine (rsec_any _ _).mono ?_; rintro e w' ⟨rfl, rfl⟩) | (go_at_call 21; refine (mag_any _ _).mono ?_; rintro e w' ⟨rfl, rfl⟩))
  go_ret
  exact ⟨ret_bool HV.out, ho⟩
end Go.Proofs.Ytbpfmpldbafepaa

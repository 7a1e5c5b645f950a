/- Contracts of chapter 24's functions: Count, Target, Links, Plain, awake. -/
import Derived.Test.YtbpfmpldbafepaaFns
import Derived.Laws.Rows
import Derived.Laws.Tables
namespace Go.Proofs.Ytbpfmpldbafepaa
open Go.RowKit
open Plain

theorem ret_int {a b : Int} (h : a = b) : Ending.returned (.int .i64 a) = .returned (.int .i64 b) := by rw [h]

theorem count_any (load rate least links : Int) (w : World) (h1 : 0 ≤ load) (h2 : load ≤ 9223372036854775807) (h3 : 64 ≤ rate) (h4 : rate ≤ 4096) :
    Calls Try.prog 14 #[.int .i64 load, .int .i64 rate, .int .i64 least, .int .i64 links] w fun e w' => e = .returned (.int .i64 (cnt load rate least links)) ∧ w = w' := by
  have hc := ceil_eq load rate h1 (by omega)
  have m0 := Int.emod_nonneg load (show rate ≠ 0 by omega)
  have d0 : 0 ≤ load / rate := Int.ediv_nonneg h1 (by omega)
  have d1 : load / rate ≤ 9223372036854775806 := by
    have := Int.mul_ediv_add_emod load rate
    have : 64 * (load / rate) ≤ rate * (load / rate) := Int.mul_le_mul_of_nonneg_right h3 d0
    omega
  by_cases hm : 0 < load % rate
  · rw [if_pos hm] at hc
    have HC := Lib.hid hc
    have hd : decide (0 < load % rate) = true := by simpa using hm
    clear hc
    go_enter Try.func14, Try.ntmps14
    go_wp2_with (first | ((with_reducible apply wpList_min); (focus rfl); (focus rfl)) | ((with_reducible apply wpList_max); (focus rfl); (focus rfl)))
    go_ret
    exact ⟨ret_int (by rw [cnt, HC.out]), rfl⟩
  · rw [if_neg hm] at hc
    have HC := Lib.hid hc
    have hd : decide (0 < load % rate) = false := by simpa using hm
    clear hc
    go_enter Try.func14, Try.ntmps14
    go_wp2_with (first | ((with_reducible apply wpList_min); (focus rfl); (focus rfl)) | ((with_reducible apply wpList_max); (focus rfl); (focus rfl)))
    go_ret
    exact ⟨ret_int (by rw [cnt, HC.out, Int.add_zero]), rfl⟩

theorem target_any (load rate least links : Int) (w : World) (h1 : 0 ≤ load) (h2 : load ≤ 9223372036854775807) (h3 : 64 ≤ rate) (h4 : rate ≤ 4096) (h5 : least ≤ links) :
    Calls Try.prog 15 #[.int .i64 load, .int .i64 rate, .int .i64 least, .int .i64 links] w fun e w' => e = .returned (.int .i64 (cnt load rate least links)) ∧ w = w' := by
  have hc := ceil_eq load rate h1 (by omega)
  have m0 := Int.emod_nonneg load (show rate ≠ 0 by omega)
  have d0 : 0 ≤ load / rate := Int.ediv_nonneg h1 (by omega)
  have d1 : load / rate ≤ 9223372036854775806 := by
    have := Int.mul_ediv_add_emod load rate
    have : 64 * (load / rate) ≤ rate * (load / rate) := Int.mul_le_mul_of_nonneg_right h3 d0
    omega
  by_cases hm : 0 < load % rate
  · rw [if_pos hm] at hc
    have HC := Lib.hid hc
    have hd : decide (0 < load % rate) = true := by simpa using hm
    clear hc
    go_enter Try.func15, Try.ntmps15
    go_wp2_with (first | ((with_reducible apply wpList_min); (focus rfl); (focus rfl)) | ((with_reducible apply wpList_max); (focus rfl); (focus rfl)))
    go_ret
    exact ⟨ret_int (by rw [cnt, HC.out]; omega), rfl⟩
  · rw [if_neg hm] at hc
    have HC := Lib.hid hc
    have hd : decide (0 < load % rate) = false := by simpa using hm
    clear hc
    go_enter Try.func15, Try.ntmps15
    go_wp2_with (first | ((with_reducible apply wpList_min); (focus rfl); (focus rfl)) | ((with_reducible apply wpList_max); (focus rfl); (focus rfl)))
    go_ret
    exact ⟨ret_int (by rw [cnt, HC.out]; omega), rfl⟩

theorem cell_cfg {c : Cfg} {w w' : World} (ho : Only [] (w.alloc (.cells (cells c) 23)) w') (i : Nat) : w'.cell? ⟨w.heap.size, i, none⟩ = (cells c)[i]? :=
  cell_of (ho.at (heap_alloc_new' w _) (by simp)) i

theorem sz23 (c : Cfg) : (Try.prog.info? 23).map (·.size) = some (cells c).size := by
  have : (Try.prog.info? 23).map (·.size) = some 18 := by kernel_rfl
  rw [this]; rfl
theorem at_cfg {c : Cfg} {w : World} {g : Nat} (h : w.heap[g]? = some (.cells (cells c) 23)) (i : Nat) : w.cell? ⟨g, i, none⟩ = (cells c)[i]? := cell_of h i
theorem one_cfg (c : Cfg) : (cells c).all (·.oneCell') = true := by simp [cells, Value.oneCell']

set_option maxRecDepth 100000 in
set_option maxHeartbeats 2000000 in
theorem links_bad (load : Int) (c : Cfg) (w : World) (h : mayB c = false ∨ load < 0) :
    Calls Try.prog 7 #[.int .i64 load, .agg (cells c)] w fun e w' => e = .returned (.tuple #[.int .i64 0, .int .i64 2400]) ∧ Only [] w w' := by
  have ho : Only [] w (w.alloc (.cells (cells c) 23)) := (Only.refl _ _).alloc _
  have hg := heap_alloc_new' w (.cells (cells c) 23)
  cases hm : mayB c
  · clear h
    go_enter Try.func7, Try.ntmps7
    go_wp2_with ((with_reducible refine wpList_load_row rfl 23 (.tmp 3) rfl _ rfl 23 (cells c) (0, 0) _ hg Try.underlying23 rfl (sz23 c) ?_))
    refine (may_any c _).mono ?_
    rintro e w1 ⟨rfl, h1⟩
    rw [hm]
    go_wp2_with fail
    go_ret2
    exact ⟨rfl, ho.trans h1⟩
  · have hl : decide (load < 0) = true := by
      rcases h with h | h
      · rw [hm] at h; cases h
      · simpa using h
    clear h
    go_enter Try.func7, Try.ntmps7
    go_wp2_with ((with_reducible refine wpList_load_row rfl 23 (.tmp 3) rfl _ rfl 23 (cells c) (0, 0) _ hg Try.underlying23 rfl (sz23 c) ?_))
    refine (may_any c _).mono ?_
    rintro e w1 ⟨rfl, h1⟩
    rw [hm]
    go_wp2_with fail
    go_ret2
    exact ⟨rfl, ho.trans h1⟩

set_option maxRecDepth 100000 in
set_option maxHeartbeats 2000000 in
theorem links_ok (load : Int) (c : Cfg) (w : World) (hm : mayB c = true) (h1 : 0 ≤ load) (h2 : load ≤ 9223372036854775807) :
    Calls Try.prog 7 #[.int .i64 load, .agg (cells c)] w fun e w' => e = .returned (.tuple #[.int .i64 (cnt load c.rate c.least c.links), .int .i64 0]) ∧ Only [] w w' := by
  have ho : Only [] w (w.alloc (.cells (cells c) 23)) := (Only.refl _ _).alloc _
  have hg := heap_alloc_new' w (.cells (cells c) 23)
  have hP := (mayB_iff c).1 hm
  have r1 : 64 ≤ c.rate := by unfold MayP at hP; omega
  have r2 : c.rate ≤ 4096 := by unfold MayP at hP; omega
  have hl : decide (load < 0) = false := by simp; omega
  clear hP
  go_enter Try.func7, Try.ntmps7
  go_wp2_with ((with_reducible refine wpList_load_row rfl 23 (.tmp 3) rfl _ rfl 23 (cells c) (0, 0) _ hg Try.underlying23 rfl (sz23 c) ?_))
  refine (may_any c _).mono ?_
  rintro e w1 ⟨rfl, ho1⟩
  rw [hm]
  have k1 := cell_cfg ho1 1
  have k2 := cell_cfg ho1 2
  have k3 := cell_cfg ho1 3
  simp only [cells, List.getElem?_toArray, List.getElem?_cons_succ, List.getElem?_cons_zero] at k1 k2 k3
  go_wp2_with (go_at_call 14; refine (count_any _ _ _ _ _ h1 h2 r1 r2).mono ?_; rintro e w' ⟨rfl, rfl⟩)
  go_ret2
  exact ⟨rfl, ho.trans ho1⟩

set_option maxRecDepth 100000 in
set_option maxHeartbeats 2000000 in
theorem rlinks_bad (load : Int) (c : Cfg) (w : World) (h : mayB c = false ∨ load < 0) :
    Calls Try.prog 8 #[.int .i64 load, .agg (cells c)] w fun e w' => e = .returned (.tuple #[.int .i64 0, .int .i64 2400]) ∧ Only [] w w' := by
  have ho : Only [] w (w.alloc (.cells (cells c) 23)) := (Only.refl _ _).alloc _
  have hg := heap_alloc_new' w (.cells (cells c) 23)
  cases hm : mayB c
  · clear h
    go_enter Try.func8, Try.ntmps8
    go_wp2_with ((with_reducible refine wpList_load_row rfl 23 (.tmp 3) rfl _ rfl 23 (cells c) (0, 0) _ hg Try.underlying23 rfl (sz23 c) ?_))
    refine (rmay_any c _).mono ?_
    rintro e w1 ⟨rfl, h1⟩
    rw [rMayB_eq, hm]
    go_wp2_with fail
    go_ret2
    exact ⟨rfl, ho.trans h1⟩
  · have hl : decide (load < 0) = true := by
      rcases h with h | h
      · rw [hm] at h; cases h
      · simpa using h
    clear h
    go_enter Try.func8, Try.ntmps8
    go_wp2_with ((with_reducible refine wpList_load_row rfl 23 (.tmp 3) rfl _ rfl 23 (cells c) (0, 0) _ hg Try.underlying23 rfl (sz23 c) ?_))
    refine (rmay_any c _).mono ?_
    rintro e w1 ⟨rfl, h1⟩
    rw [rMayB_eq, hm]
    go_wp2_with fail
    go_ret2
    exact ⟨rfl, ho.trans h1⟩

set_option maxRecDepth 100000 in
set_option maxHeartbeats 2000000 in
theorem rlinks_ok (load : Int) (c : Cfg) (w : World) (hm : mayB c = true) (h1 : 0 ≤ load) (h2 : load ≤ 9223372036854775807) :
    Calls Try.prog 8 #[.int .i64 load, .agg (cells c)] w fun e w' => e = .returned (.tuple #[.int .i64 (cnt load c.rate c.least c.links), .int .i64 0]) ∧ Only [] w w' := by
  have ho : Only [] w (w.alloc (.cells (cells c) 23)) := (Only.refl _ _).alloc _
  have hg := heap_alloc_new' w (.cells (cells c) 23)
  have hP := (mayB_iff c).1 hm
  have r1 : 64 ≤ c.rate := by unfold MayP at hP; omega
  have r2 : c.rate ≤ 4096 := by unfold MayP at hP; omega
  have r3 : c.least ≤ c.links := by unfold MayP at hP; omega
  have hl : decide (load < 0) = false := by simp; omega
  clear hP
  go_enter Try.func8, Try.ntmps8
  go_wp2_with ((with_reducible refine wpList_load_row rfl 23 (.tmp 3) rfl _ rfl 23 (cells c) (0, 0) _ hg Try.underlying23 rfl (sz23 c) ?_))
  refine (rmay_any c _).mono ?_
  rintro e w1 ⟨rfl, ho1⟩
  rw [rMayB_eq, hm]
  have k1 := cell_cfg ho1 1
  have k2 := cell_cfg ho1 2
  have k3 := cell_cfg ho1 3
  simp only [cells, List.getElem?_toArray, List.getElem?_cons_succ, List.getElem?_cons_zero] at k1 k2 k3
  go_wp2_with (go_at_call 15; refine (target_any _ _ _ _ _ h1 h2 r1 r2 r3).mono ?_; rintro e w' ⟨rfl, rfl⟩)
  go_ret2
  exact ⟨rfl, ho.trans ho1⟩

def plainC : Cfg := ⟨4, 3, 1, 256, 16, 800, 200, 4, 2, 8, 3, 4, false, ⟨#[115]⟩, ⟨#[115]⟩, ⟨#[115]⟩, 1, 2⟩
def zeroC : Cfg := ⟨0, 0, 0, 0, 0, 0, 0, 0, 0, 0, 0, 0, false, ⟨#[]⟩, ⟨#[]⟩, ⟨#[]⟩, 0, 0⟩
theorem plain_may : mayB plainC = true := by decide
theorem zero_may : mayB zeroC = false := by decide

set_option maxRecDepth 100000 in
theorem plain_any (w : World) : Calls Try.prog 13 #[] w fun e w' => e = .returned (.agg (cells plainC)) ∧ Only [] w w' := by
  go_enter Try.func13, Try.ntmps13
  go_wp2
  exact bodyPost_ret (v := .agg (cells plainC)) (results_cell_row Try.results13 _ _ w.heap.size 23 _ (0, 0) _ rfl (heap_alloc_new' w _) Try.underlying23 rfl (sz23 plainC)) rfl ⟨rfl, (Only.refl _ _).alloc _⟩
end Go.Proofs.Ytbpfmpldbafepaa

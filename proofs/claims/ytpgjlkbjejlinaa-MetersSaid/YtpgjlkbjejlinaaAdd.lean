/- The contract of (*Meter).add. -/
import Derived.Test.YtpgjlkbjejlinaaFns
namespace Go.Proofs.Ytpgjlkbjejlinaa
open Go.RowKit
open Plain

set_option maxRecDepth 100000 in
set_option maxHeartbeats 4000000 in
theorem add_walk (p rr n k : Nat) (v0 v1 v2 v3 v4 sh : Value) (b r sb sr : Int) (R : List (Int × Int)) (w : World)
    (hO : w.heap[p]? = some (.cells #[v0, v1, v2, v3, v4, .slice (some ⟨rr, 0, none⟩) n n, .int .i64 (k : Int), .int .i64 sb, .int .i64 sr, sh] 53 (0, 0))) (hR : w.heap[rr]? = some (.cells (flat R) 51 (0, 0))) (hne : p ≠ rr) (hRl : R.length = n) (hk : k < n) (hn : n ≤ 32)
    (hok : ∀ x ∈ R, Ok x) (hx : Ok (b, r)) (e1 : sb = s1 R) (e2 : sr = s2 R) :
    Calls Try.prog 18 #[.pointer (some ⟨p, 0, none⟩), .agg #[.int .i64 b, .int .i64 r]] w fun e w' => e = .returned (.tuple #[]) ∧
      w'.heap[p]? = some (.cells #[v0, v1, v2, v3, v4, .slice (some ⟨rr, 0, none⟩) n n, .int .i64 (((k + 1) % n : Nat) : Int), .int .i64 (s1 (R.set k (b, r))), .int .i64 (s2 (R.set k (b, r))), .int .i64 (shareOf (R.set k (b, r)))] 53 (0, 0)) ∧
      w'.heap[rr]? = some (.cells (flat (R.set k (b, r))) 51 (0, 0)) ∧ Only [p, rr] w w' := by
  have hkR : k < R.length := by omega
  have hRk := hok R[k] (List.getElem_mem hkR)
  have fl := flat_get R k hkR
  have fs := flat_set R k hkR b r
  have z1 := s1_set R k hkR (b, r)
  have z2 := s2_set R k hkR (b, r)
  have hok' : ∀ x ∈ R.set k (b, r), Ok x := fun x hx' => by
    rcases List.mem_or_eq_of_mem_set hx' with h | h
    · exact hok x h
    · rw [h]; exact hx
  have bd := s_bd R hok
  have bd' := s_bd _ hok'
  rw [List.length_set] at bd'
  rw [← e1] at z1 bd
  rw [← e2] at z2 bd
  simp only at z1 z2
  obtain ⟨y1, y2, y3, y4⟩ := hRk
  obtain ⟨x1, x2, x3, x4⟩ := hx
  simp only at x1 x2 x3 x4
  obtain ⟨f0, f1⟩ := fl
  have HFS := Lib.hid fs
  clear fs hok hok' e1 e2
  unfold shareOf
  generalize hS1 : s1 (R.set k (b, r)) = sb' at *
  generalize hS2 : s2 (R.set k (b, r)) = sr' at *
  have HZ1 := Lib.hid z1
  have HZ2 := Lib.hid z2
  have HS1 := Lib.hid hS1
  have HS2 := Lib.hid hS2
  clear hS1 hS2
  generalize R[k].1 = ob at *
  generalize R[k].2 = orr at *
  have w1 : 0 ≤ sb + (b - ob) := by omega
  have w2 : sb + (b - ob) ≤ 68719476736 := by omega
  have w3 : 0 ≤ sr + (r - orr) := by omega
  have w4 : sr + (r - orr) ≤ 68719476736 := by omega
  have w5 : sb ≤ 68719476736 := by omega
  have w6 : sr ≤ 68719476736 := by omega
  have w7 : 0 ≤ sb := by omega
  have w8 : 0 ≤ sr := by omega
  clear z1 z2 bd bd'
  have hp := lt_of_block hO
  have hr := lt_of_block hR
  have kl : (k : Int) < (n : Int) := by omega
  go_enter Try.func18, Try.ntmps18
  go_upto_region 1 with fail
  have O1 : Only [p, rr] w (w.alloc (.cells #[.int .i64 b, .int .i64 r] 51)) := (Only.refl _ _).alloc _
  have hT := heap_alloc_new' w (.cells #[.int .i64 b, .int .i64 r] 51)
  have hO1 := ((Only.refl [] w).alloc (.cells #[.int .i64 b, .int .i64 r] 51)).at hO (by simp)
  have hR1 := ((Only.refl [] w).alloc (.cells #[.int .i64 b, .int .i64 r] 51)).at hR (by simp)
  have hT1 : w.heap.size ≠ p := by omega
  have hT2 : w.heap.size ≠ rr := by omega
  clear hO hR hp hr
  generalize World.alloc w _ = wa at *
  generalize w.heap.size = T at *
  have c5 := cell_of hO1 5
  have c6 := cell_of hO1 6
  simp only [List.getElem?_toArray, List.getElem?_cons_succ, List.getElem?_cons_zero] at c5 c6
  refine wp_region_free 8 [] [8, 9] mixed (by kernel_rfl) (fun d v c a w h => by cases d <;> exact h) ?_
  simp only [Region.heads, List.range, List.range.loop, List.filter_cons, List.filter_nil, List.contains_cons, List.contains_nil, Nat.reduceBEq, Bool.or_false, Bool.not_true, Bool.not_false, Bool.false_eq_true, if_false, if_true, List.cons_append, List.nil_append, List.filterMap_cons, List.filterMap_nil, List.getElem?_cons_succ, List.getElem?_cons_zero, BEq.rfl]
  repeat (refine wpStill_op rfl rfl (fun K hK => ?_); go_step; refine hK _ ?_; clear hK K)
  refine wpStill_nil ?_
  clear c5 c6
  have hO2 : wa.drew.heap[p]? = _ := hO1
  have hR2 : wa.drew.heap[rr]? = _ := hR1
  have hTT : wa.drew.heap[T]? = _ := hT
  have O2 := O1.drew
  clear hO1 hR1 hT O1
  go_wp2_with fail
  generalize wa.drew = wb at *
  have c7 := cell_of hO2 7
  simp only [List.getElem?_toArray, List.getElem?_cons_succ, List.getElem?_cons_zero] at c7
  have f7 := frozen_of hO2 7
  have t0 := cell_of hTT 0
  simp only [List.getElem?_toArray, List.getElem?_cons_succ, List.getElem?_cons_zero] at t0
  have d0 := (cell_of hR2 (k * 2)).trans f0
  refine wp_region_free 12 [] [12, 13, 14, 15, 16] mixed (by kernel_rfl) (fun d v c a w h => by cases d <;> exact h) ?_
  simp only [Region.heads, List.range, List.range.loop, List.filter_cons, List.filter_nil, List.contains_cons, List.contains_nil, Nat.reduceBEq, Bool.or_false, Bool.not_true, Bool.not_false, Bool.false_eq_true, if_false, if_true, List.cons_append, List.nil_append, List.filterMap_cons, List.filterMap_nil, List.getElem?_cons_succ, List.getElem?_cons_zero, BEq.rfl]
  repeat (refine wpStill_op rfl rfl (fun K hK => ?_); go_step; refine hK _ ?_; clear hK K)
  refine wpStill_nil ?_
  go_wp2_with fail
  clear c7 f7 t0 d0
  have hO3 : (wb.setCell ⟨p, 7, none⟩ (.int .i64 (sb + (b - ob)))).drew.heap[p]? = some (.cells #[v0, v1, v2, v3, v4, .slice (some ⟨rr, 0, none⟩) n n, .int .i64 (k : Int), .int .i64 (sb + (b - ob)), .int .i64 sr, sh] 53 (0, 0)) := by show (wb.setCell ⟨p, 7, none⟩ _).heap[p]? = _; rw [heap_setCell_same hO2]; simp
  have hR3 : (wb.setCell ⟨p, 7, none⟩ (.int .i64 (sb + (b - ob)))).drew.heap[rr]? = _ := (heap_setCell_ne (Ne.symm hne) _).trans hR2
  have hT3 : (wb.setCell ⟨p, 7, none⟩ (.int .i64 (sb + (b - ob)))).drew.heap[T]? = _ := (heap_setCell_ne hT1 _).trans hTT
  have O3 : Only [p, rr] w (wb.setCell ⟨p, 7, none⟩ (.int .i64 (sb + (b - ob)))).drew := (O2.setCell (.inl (by simp)) _).drew
  clear hO2 hR2 hTT O2
  generalize (wb.setCell ⟨p, 7, none⟩ (.int .i64 (sb + (b - ob)))).drew = wc at *
  have c8 := cell_of hO3 8
  simp only [List.getElem?_toArray, List.getElem?_cons_succ, List.getElem?_cons_zero] at c8
  have f8 := frozen_of hO3 8
  have t0 := cell_of hT3 0
  have t1 := cell_of hT3 1
  simp only [List.getElem?_toArray, List.getElem?_cons_succ, List.getElem?_cons_zero] at t0 t1
  have d1 := (cell_of hR3 (k * 2 + 1)).trans f1
  have d0 := (cell_of hR3 (k * 2)).trans f0
  have g0 := frozen_of hR3 (k * 2)
  have g1 := frozen_of hR3 (k * 2 + 1)
  refine wp_region_free 12 [] [12, 13, 14, 15, 16] mixed (by kernel_rfl) (fun d v c a w h => by cases d <;> exact h) ?_
  simp only [Region.heads, List.range, List.range.loop, List.filter_cons, List.filter_nil, List.contains_cons, List.contains_nil, Nat.reduceBEq, Bool.or_false, Bool.not_true, Bool.not_false, Bool.false_eq_true, if_false, if_true, List.cons_append, List.nil_append, List.filterMap_cons, List.filterMap_nil, List.getElem?_cons_succ, List.getElem?_cons_zero, BEq.rfl]
  repeat (refine wpStill_op rfl rfl (fun K hK => ?_); go_step; refine hK _ ?_; clear hK K)
  refine wpStill_nil ?_
  go_wp2_with fail
  clear c8 f8 t0 t1 d0 d1 g0 g1
  have hO4 : (((wc.setCell ⟨p, 8, none⟩ (.int .i64 (sr + (r - orr)))).setCell ⟨rr, k * 2, none⟩ (.int .i64 b)).setCell ⟨rr, k * 2 + 1, none⟩ (.int .i64 r)).drew.heap[p]? = some (.cells #[v0, v1, v2, v3, v4, .slice (some ⟨rr, 0, none⟩) n n, .int .i64 (k : Int), .int .i64 (sb + (b - ob)), .int .i64 (sr + (r - orr)), sh] 53 (0, 0)) := by
    show (((wc.setCell ⟨p, 8, none⟩ (.int .i64 (sr + (r - orr)))).setCell ⟨rr, k * 2, none⟩ (.int .i64 b)).setCell ⟨rr, k * 2 + 1, none⟩ (.int .i64 r)).heap[p]? = _
    rw [heap_setCell_ne hne, heap_setCell_ne hne, heap_setCell_same hO3]
    simp
  have hR4 : (((wc.setCell ⟨p, 8, none⟩ (.int .i64 (sr + (r - orr)))).setCell ⟨rr, k * 2, none⟩ (.int .i64 b)).setCell ⟨rr, k * 2 + 1, none⟩ (.int .i64 r)).drew.heap[rr]? = some (.cells (flat (R.set k (b, r))) 51 (0, 0)) := by
    show (((wc.setCell ⟨p, 8, none⟩ (.int .i64 (sr + (r - orr)))).setCell ⟨rr, k * 2, none⟩ (.int .i64 b)).setCell ⟨rr, k * 2 + 1, none⟩ (.int .i64 r)).heap[rr]? = _
    have q1 := (heap_setCell_ne (o := 8) (Ne.symm hne) (.int .i64 (sr + (r - orr)))).trans hR3
    have q2 := heap_setCell_same (o := k * 2) q1 (.int .i64 b)
    rw [heap_setCell_same q2, HFS.out]
  have O4 : Only [p, rr] w (((wc.setCell ⟨p, 8, none⟩ (.int .i64 (sr + (r - orr)))).setCell ⟨rr, k * 2, none⟩ (.int .i64 b)).setCell ⟨rr, k * 2 + 1, none⟩ (.int .i64 r)).drew := (((O3.setCell (.inl (by simp)) _).setCell (.inl (by simp)) _).setCell (.inl (by simp)) _).drew
  clear hO3 hR3 hT3 O3
  generalize (((wc.setCell ⟨p, 8, none⟩ (.int .i64 (sr + (r - orr)))).setCell ⟨rr, k * 2, none⟩ (.int .i64 b)).setCell ⟨rr, k * 2 + 1, none⟩ (.int .i64 r)).drew = wd at *
  rw [← HZ1.out, ← HZ2.out] at hO4
  have c5 := cell_of hO4 5
  have c6 := cell_of hO4 6
  simp only [List.getElem?_toArray, List.getElem?_cons_succ, List.getElem?_cons_zero] at c5 c6
  have f6 := frozen_of hO4 6
  have em : ((k : Int) + 1) % (n : Int) = (((k + 1) % n : Nat) : Int) := by rw [Int.natCast_emod]; rfl
  have HEM := Lib.hid em
  clear em
  refine wp_region_free 12 [] [12, 13, 14] mixed (by kernel_rfl) (fun d v c a w h => by cases d <;> exact h) ?_
  simp only [Region.heads, List.range, List.range.loop, List.filter_cons, List.filter_nil, List.contains_cons, List.contains_nil, Nat.reduceBEq, Bool.or_false, Bool.not_true, Bool.not_false, Bool.false_eq_true, if_false, if_true, List.cons_append, List.nil_append, List.filterMap_cons, List.filterMap_nil, List.getElem?_cons_succ, List.getElem?_cons_zero, BEq.rfl]
  repeat (refine wpStill_op rfl rfl (fun K hK => ?_); go_step; refine hK _ ?_; clear hK K)
  refine wpStill_nil ?_
  go_upto_region 6 with fail
  rw [HEM.out]
  clear c5 c6 f6
  have hO5 : (wd.setCell ⟨p, 6, none⟩ (.int .i64 (((k + 1) % n : Nat) : Int))).drew.heap[p]? = some (.cells #[v0, v1, v2, v3, v4, .slice (some ⟨rr, 0, none⟩) n n, .int .i64 (((k + 1) % n : Nat) : Int), .int .i64 sb', .int .i64 sr', sh] 53 (0, 0)) := by show (wd.setCell ⟨p, 6, none⟩ _).heap[p]? = _; rw [heap_setCell_same hO4]; simp
  have hR5 : (wd.setCell ⟨p, 6, none⟩ (.int .i64 (((k + 1) % n : Nat) : Int))).drew.heap[rr]? = _ := (heap_setCell_ne (Ne.symm hne) _).trans hR4
  have O5 : Only [p, rr] w (wd.setCell ⟨p, 6, none⟩ (.int .i64 (((k + 1) % n : Nat) : Int))).drew := (O4.setCell (.inl (by simp)) _).drew
  clear hO4 hR4 O4
  generalize (wd.setCell ⟨p, 6, none⟩ (.int .i64 (((k + 1) % n : Nat) : Int))).drew = we at *
  have c8 := cell_of hO5 8
  have c9 := cell_of hO5 9
  simp only [List.getElem?_toArray, List.getElem?_cons_succ, List.getElem?_cons_zero] at c8 c9
  have f9 := frozen_of hO5 9
  have u1 : 0 ≤ sb' := by rw [HZ1.out]; exact w1
  have u2 : sb' ≤ 68719476736 := by rw [HZ1.out]; exact w2
  have u3 : 0 ≤ sr' := by rw [HZ2.out]; exact w3
  have u4 : sr' ≤ 68719476736 := by rw [HZ2.out]; exact w4
  clear w1 w2 w3 w4 HZ1 HZ2
  by_cases hz : 0 < sr'
  · have hd : decide (0 < sr') = true := by simpa using hz
    have HSH : Hid (shr sb' sr' = min 1000 (1000 * sb' / sr')) := if_pos hz
    go_wp2_with fail
    clear c8 c9 f9
    have hO6 : (we.setCell ⟨p, 9, none⟩ (.int .i64 0)).heap[p]? = some (.cells #[v0, v1, v2, v3, v4, .slice (some ⟨rr, 0, none⟩) n n, .int .i64 (((k + 1) % n : Nat) : Int), .int .i64 sb', .int .i64 sr', .int .i64 0] 53 (0, 0)) := by rw [heap_setCell_same hO5]; simp
    have hR6 : (we.setCell ⟨p, 9, none⟩ (.int .i64 0)).heap[rr]? = _ := (heap_setCell_ne (Ne.symm hne) _).trans hR5
    have O6 : Only [p, rr] w (we.setCell ⟨p, 9, none⟩ (.int .i64 0)) := O5.setCell (.inl (by simp)) _
    clear hO5 hR5 O5
    generalize (we.setCell ⟨p, 9, none⟩ (.int .i64 0)) = wf at *
    have c7 := cell_of hO6 7
    have c8 := cell_of hO6 8
    have c9 := cell_of hO6 9
    simp only [List.getElem?_toArray, List.getElem?_cons_succ, List.getElem?_cons_zero] at c7 c8 c9
    have f9 := frozen_of hO6 9
    have u5 : 0 ≤ 1000 * sb' / sr' := Int.ediv_nonneg (by omega) (by omega)
    by_cases hmn : 1000 * sb' / sr' < 1000
    all_goals
      refine wp_region_free 13 [0] [13, 14, 15, 16] mixed (by kernel_rfl) (fun d v c a w h => by cases d <;> exact h) ?_
      simp only [Region.heads, List.range, List.range.loop, List.filter_cons, List.filter_nil, List.contains_cons, List.contains_nil, Nat.reduceBEq, Bool.or_false, Bool.not_true, Bool.not_false, Bool.false_eq_true, if_false, if_true, List.cons_append, List.nil_append, List.filterMap_cons, List.filterMap_nil, List.getElem?_cons_succ, List.getElem?_cons_zero, BEq.rfl]
      repeat (refine wpStill_op rfl rfl (fun K hK => ?_); go_step; refine hK _ ?_; clear hK K)
      refine wpStill_nil ?_
      go_wp2_with fail
      go_end0
      refine ⟨rfl, ?_, (heap_setCell_ne (Ne.symm hne) _).trans hR6, (O6.setCell (.inl (by simp)) _).drew⟩
      show (wf.setCell ⟨p, 9, none⟩ _).heap[p]? = _
      rw [heap_setCell_same hO6, HSH.out]
      simp
      try omega
  · have hd : decide (0 < sr') = false := by simpa using hz
    have HSH : Hid (shr sb' sr' = 0) := if_neg hz
    go_wp2_with fail
    go_end0
    refine ⟨rfl, ?_, (heap_setCell_ne (Ne.symm hne) _).trans hR5, O5.setCell (.inl (by simp)) _⟩
    rw [heap_setCell_same hO5, HSH.out]
    simp
end Go.Proofs.Ytpgjlkbjejlinaa

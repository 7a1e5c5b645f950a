/- The contract of (*run).turn. -/
import Derived.Test.YtpgjlkbjejlinaaAdd
namespace Go.Proofs.Ytpgjlkbjejlinaa
open Go.RowKit
open Plain

set_option maxRecDepth 100000 in
set_option maxHeartbeats 2000000 in
theorem turn_walk (p : Nat) (d k way long : Int) (v2 v3 v4 v5 v6 v7 v8 v9 : Value) (w : World) (hO : w.heap[p]? = some (.cells #[.int .i64 way, .int .i64 long, v2, v3, v4, v5, v6, v7, v8, v9] 53 (0, 0)))
    (h0 : 0 ≤ long) (h1 : long ≤ 4096) :
    Calls Try.prog 19 #[.pointer (some ⟨p, 0, none⟩), .int .i64 d, .int .i64 k] w fun e w' => e = .returned (.int .i64 (turn ⟨way, long⟩ d k).2) ∧ Only [p] w w' ∧
      w'.heap[p]? = some (.cells #[.int .i64 (turn ⟨way, long⟩ d k).1.way, .int .i64 (turn ⟨way, long⟩ d k).1.long, v2, v3, v4, v5, v6, v7, v8, v9] 53 (0, 0)) := by
  have c0 := cell_of hO 0
  have c1 := cell_of hO 1
  have f0 := frozen_of hO 0
  have f1 := frozen_of hO 1
  simp only [List.getElem?_toArray, List.getElem?_cons_succ, List.getElem?_cons_zero] at c0 c1
  by_cases hd : d = 0
  · subst hd
    by_cases hw : way = 0
    · subst hw
      have ht : turn ⟨0, long⟩ 0 k = (⟨0, long⟩, 0) := by simp [turn]
      rw [ht]
      clear ht
      go_enter Try.func19, Try.ntmps19
      go_wp2
      go_ret
      exact ⟨rfl, Only.refl _ _, hO⟩
    · have ht : turn ⟨way, long⟩ 0 k = (⟨0, 0⟩, 0) := by simp [turn, hw]
      rw [ht]
      have hne : ((0 : Int) != way) = true := by simpa using Ne.symm hw
      clear ht hw
      go_enter Try.func19, Try.ntmps19
      go_wp2
      go_ret
      refine ⟨rfl, ((Only.refl _ _).setCell (.inl (by simp)) _).setCell (.inl (by simp)) _, ?_⟩
      rw [heap_setCell_same (heap_setCell_same hO _)]
      simp
  · have hd0 : (d == 0) = false := by simpa using hd
    by_cases hw : way = d
    · subst hw
      have hne : (way != way) = false := by simp
      by_cases hl : long + 1 < k
      · have ht : turn ⟨way, long⟩ way k = (⟨way, long + 1⟩, 0) := by simp [turn, hd, hl]
        rw [ht]
        have hld : decide (long + 1 < k) = true := by simpa using hl
        clear ht hl hd
        go_enter Try.func19, Try.ntmps19
        go_wp2
        go_ret
        refine ⟨rfl, (Only.refl _ _).setCell (.inl (by simp)) _, ?_⟩
        rw [heap_setCell_same hO]
        simp
      · have ht : turn ⟨way, long⟩ way k = (⟨way, 0⟩, way) := by simp [turn, hd, hl]
        rw [ht]
        have hld : decide (long + 1 < k) = false := by simpa using hl
        clear ht hl hd
        go_enter Try.func19, Try.ntmps19
        go_wp2
        go_ret
        refine ⟨rfl, ((Only.refl _ _).setCell (.inl (by simp)) _).setCell (.inl (by simp)) _, ?_⟩
        rw [heap_setCell_same (heap_setCell_same hO _)]
        simp
    · have hne : (d != way) = true := by simpa using fun h => hw h.symm
      by_cases hl : 1 < k
      · have ht : turn ⟨way, long⟩ d k = (⟨d, 1⟩, 0) := by simp [turn, hd, hw, hl]
        rw [ht]
        have hld : decide (1 < k) = true := by simpa using hl
        clear ht hl hd hw
        go_enter Try.func19, Try.ntmps19
        go_upto_region 3 with fail
        have hO2 : ((w.setCell ⟨p, 0, none⟩ (.int .i64 d)).setCell ⟨p, 1, none⟩ (.int .i64 0)).heap[p]? = some (.cells #[.int .i64 d, .int .i64 0, v2, v3, v4, v5, v6, v7, v8, v9] 53 (0, 0)) := by rw [heap_setCell_same (heap_setCell_same hO _)]; simp
        have O2 : Only [p] w ((w.setCell ⟨p, 0, none⟩ (.int .i64 d)).setCell ⟨p, 1, none⟩ (.int .i64 0)) := ((Only.refl _ _).setCell (.inl (by simp)) _).setCell (.inl (by simp)) _
        clear c0 c1 f0 f1 hO
        generalize ((w.setCell ⟨p, 0, none⟩ (.int .i64 d)).setCell ⟨p, 1, none⟩ (.int .i64 0)) = w2 at *
        have c1 := cell_of hO2 1
        have f1 := frozen_of hO2 1
        simp only [List.getElem?_toArray, List.getElem?_cons_succ, List.getElem?_cons_zero] at c1
        go_wp2
        go_ret
        refine ⟨rfl, O2.setCell (.inl (by simp)) _, ?_⟩
        rw [heap_setCell_same hO2]
        simp
      · have ht : turn ⟨way, long⟩ d k = (⟨d, 0⟩, d) := by simp [turn, hd, hw, hl]
        rw [ht]
        have hld : decide (1 < k) = false := by simpa using hl
        clear ht hl hd hw
        go_enter Try.func19, Try.ntmps19
        go_upto_region 3 with fail
        have hO2 : ((w.setCell ⟨p, 0, none⟩ (.int .i64 d)).setCell ⟨p, 1, none⟩ (.int .i64 0)).heap[p]? = some (.cells #[.int .i64 d, .int .i64 0, v2, v3, v4, v5, v6, v7, v8, v9] 53 (0, 0)) := by rw [heap_setCell_same (heap_setCell_same hO _)]; simp
        have O2 : Only [p] w ((w.setCell ⟨p, 0, none⟩ (.int .i64 d)).setCell ⟨p, 1, none⟩ (.int .i64 0)) := ((Only.refl _ _).setCell (.inl (by simp)) _).setCell (.inl (by simp)) _
        clear c0 c1 f0 f1 hO
        generalize ((w.setCell ⟨p, 0, none⟩ (.int .i64 d)).setCell ⟨p, 1, none⟩ (.int .i64 0)) = w2 at *
        have c1 := cell_of hO2 1
        have f1 := frozen_of hO2 1
        simp only [List.getElem?_toArray, List.getElem?_cons_succ, List.getElem?_cons_zero] at c1
        go_wp2
        go_ret
        refine ⟨rfl, (O2.setCell (.inl (by simp)) _).setCell (.inl (by simp)) _, ?_⟩
        rw [heap_setCell_same (heap_setCell_same hO2 _)]
        simp
end Go.Proofs.Ytpgjlkbjejlinaa

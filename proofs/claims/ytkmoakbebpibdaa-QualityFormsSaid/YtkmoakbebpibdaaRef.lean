/- Contracts of chapter 17's document: withyref17's NewQuality, Add, Good; and Num. -/
import Derived.Test.YtkmoakbebpibdaaRows
import Derived.Test.YtkmoakbebpibdaaBase
import Derived.Test.YtkmoakbebpibdaaRegion
import Derived.Test.YtkmoakbebpibdaaPlain
import Derived.Deep.Cut
namespace Go.Proofs.Ytkmoakbebpibdaa
open Go.RowKit
open Plain

theorem mixedR : Try.prog.follows .mixedOrders = true := by kernel_rfl
theorem info3 : (Try.prog.info? 3).map (fun i => (i.zero, i.size, i.bytes)) = some (some (.int .i64 0), 1, 8) := by kernel_rfl

theorem num_any (n : Int) (w : World) : Calls Try.prog 11 #[.int .i64 n] w fun e w' => e = .returned (.int .i64 n) ∧ w = w' := by
  go_enter Try.func11, Try.ntmps11
  go_wp2
  go_ret
  exact ⟨rfl, rfl⟩

set_option maxHeartbeats 400000 in
theorem rnew_good (n g o : Int) (w : World) (h1 : 1 ≤ n) (h2 : n ≤ 32) (h3 : 1 ≤ o) (h4 : o ≤ 1000) (h5 : 0 ≤ g) (h6 : g ≤ o) :
    Calls Try.prog 10 #[.int .i64 n, .int .i64 g, .int .i64 o] w fun e w' => e = .returned (.tuple #[.pointer (some ⟨w.heap.size, 0, none⟩), .int .i64 0]) ∧
      w' = w.alloc (.cells #[.int .i64 n, .int .i64 g, .int .i64 o, .slice none 0 0, .slice none 0 0] 45) := by
  have g1 : decide (n < 1) = false := by simp; omega
  have g2 : decide (32 < n) = false := by simp; omega
  have g3 : decide (o < 1) = false := by simp; omega
  have g4 : decide (1000 < o) = false := by simp; omega
  have g5 : decide (g < 0) = false := by simp; omega
  have g6 : decide (o < g) = false := by simp; omega
  go_enter Try.func10, Try.ntmps10
  go_wp2
  go_ret2
  exact ⟨rfl, rfl⟩

set_option maxHeartbeats 400000 in
theorem rnew_bad (n g o : Int) (w : World) (h : n < 1 ∨ 32 < n ∨ o < 1 ∨ 1000 < o ∨ g < 0 ∨ o < g) :
    Calls Try.prog 10 #[.int .i64 n, .int .i64 g, .int .i64 o] w fun e w' => e = .returned (.tuple #[.pointer none, .int .i64 1700]) ∧ w = w' := by
  by_cases h1 : n < 1
  · go_enter Try.func10, Try.ntmps10
    go_wp2
    go_ret2
    exact ⟨rfl, rfl⟩
  by_cases h2 : 32 < n
  · go_enter Try.func10, Try.ntmps10
    go_wp2
    go_ret2
    exact ⟨rfl, rfl⟩
  by_cases h3 : o < 1
  · go_enter Try.func10, Try.ntmps10
    go_wp2
    go_ret2
    exact ⟨rfl, rfl⟩
  by_cases h4 : 1000 < o
  · go_enter Try.func10, Try.ntmps10
    go_wp2
    go_ret2
    exact ⟨rfl, rfl⟩
  by_cases h5 : g < 0
  · go_enter Try.func10, Try.ntmps10
    go_wp2
    go_ret2
    exact ⟨rfl, rfl⟩
  have h6 : o < g := by omega
  clear h
  go_enter Try.func10, Try.ntmps10
  go_wp2
  go_ret2
  exact ⟨rfl, rfl⟩

/-- what the document's Quality is in memory: the last reports, oldest first; T: the blocks of its two lists. -/
def RRep (w : World) (p n : Nat) (g o : Int) (H : List (Int × Int)) (T : List Nat) : Prop :=
  ∃ a1 c1 a2 c2, w.heap[p]? = some (.cells #[.int .i64 n, .int .i64 g, .int .i64 o, .slice a1 H.length c1, .slice a2 H.length c2] 45 (0, 0)) ∧
    Sl w 3 1 a1 H.length c1 (H.map fun x => .int .i64 x.1) ∧ Sl w 3 1 a2 H.length c2 (H.map fun x => .int .i64 x.2) ∧
    blk a1 ≠ some p ∧ blk a2 ≠ some p ∧ (∀ k, blk a1 = some k → blk a2 ≠ some k) ∧ (∀ k, blk a1 = some k → k ∈ T) ∧ (∀ k, blk a2 = some k → k ∈ T)

theorem RRep.only {S : List Nat} {w w' : World} {p n : Nat} {g o : Int} {H : List (Int × Int)} {T : List Nat} (h : RRep w p n g o H T) (ho : Only S w w') (hp : p ∉ S) (hT : ∀ k ∈ T, k ∉ S) : RRep w' p n g o H T := by
  obtain ⟨a1, c1, a2, c2, h1, h2, h3, h4, h5, h6, h7, h8⟩ := h
  exact ⟨a1, c1, a2, c2, ho.at h1 hp, h2.only ho (fun k hk => hT k (h7 k hk)), h3.only ho (fun k hk => hT k (h8 k hk)), h4, h5, h6, h7, h8⟩

theorem set3 {w : World} {p : Nat} {c0 c1 c2 c3 c4 : Value} {t : TypeId} (h : w.heap[p]? = some (.cells #[c0, c1, c2, c3, c4] t (0, 0))) (v : Value) : (w.setCell ⟨p, 3, none⟩ v).heap[p]? = some (.cells #[c0, c1, c2, v, c4] t (0, 0)) := by
  simpa using heap_setCell_same (o := 3) h v
theorem set4 {w : World} {p : Nat} {c0 c1 c2 c3 c4 : Value} {t : TypeId} (h : w.heap[p]? = some (.cells #[c0, c1, c2, c3, c4] t (0, 0))) (v : Value) : (w.setCell ⟨p, 4, none⟩ v).heap[p]? = some (.cells #[c0, c1, c2, c3, v] t (0, 0)) := by
  simpa using heap_setCell_same (o := 4) h v

set_option maxHeartbeats 400000 in
theorem radd_bad (p : Addr) (s x : Int) (w : World) (h : s < 0 ∨ 2147483647 < s ∨ x < 0 ∨ s < x) :
    Calls Try.prog 14 #[.pointer (some p), .int .i64 s, .int .i64 x] w fun e w' => e = .returned (.int .i64 1700) ∧ w = w' := by
  by_cases h1 : s < 0
  · go_enter Try.func14, Try.ntmps14
    go_wp2
    go_ret
    exact ⟨rfl, rfl⟩
  by_cases h2 : 2147483647 < s
  · go_enter Try.func14, Try.ntmps14
    go_wp2
    go_ret
    exact ⟨rfl, rfl⟩
  by_cases h3 : x < 0
  · go_enter Try.func14, Try.ntmps14
    go_wp2
    go_ret
    exact ⟨rfl, rfl⟩
  have h4 : s < x := by omega
  clear h
  go_enter Try.func14, Try.ntmps14
  go_wp2
  go_ret
  exact ⟨rfl, rfl⟩

/-- the window that follows. -/
def nextH (n : Nat) (H : List (Int × Int)) (x : Int × Int) : List (Int × Int) := if n < H.length + 1 then (H ++ [x]).tail else H ++ [x]

set_option maxHeartbeats 2000000 in
theorem radd_walk (p n : Nat) (g o s x : Int) (H : List (Int × Int)) (T : List Nat) (w : World) (hrep : RRep w p n g o H T) (hn : 1 ≤ n) (hn' : n ≤ 32) (hH : H.length ≤ n)
    (hs : 0 ≤ s) (hs' : s ≤ 2147483647) (hx : 0 ≤ x) (hx' : x ≤ s) :
    Calls Try.prog 14 #[.pointer (some ⟨p, 0, none⟩), .int .i64 s, .int .i64 x] w fun e w' => e = .returned (.int .i64 0) ∧
      ∃ T', RRep w' p n g o (nextH n H (s, x)) T' ∧ Only (p :: T) w w' ∧ ∀ k ∈ T', k ∈ T ∨ w.heap.size ≤ k := by
  obtain ⟨a1, c1, a2, c2, hp, hs1, hs2, hb1, hb2, hb3, hT1, hT2⟩ := hrep
  have hpl := lt_of_block hp
  have e0 := cell_of hp 0
  have e3 := cell_of hp 3
  have e4 := cell_of hp 4
  simp at e0 e3 e4
  have g1 : decide (s < 0) = false := by simp; omega
  have g2 : decide (2147483647 < s) = false := by simp; omega
  have g3 : decide (x < 0) = false := by simp; omega
  have g4 : decide (s < x) = false := by simp; omega
  obtain ⟨i3, hi3, hz3, hsz3, hby3⟩ := info_parts info3
  have hl32 : H.length ≤ 32 := by omega
  have hm : H.length + 1 ≤ maxLen := by unfold maxLen; omega
  go_enter Try.func14, Try.ntmps14
  go_wp2_with (first | (at_builtin; refine wpList_append_sl _ rfl (.tmp 26) (.tmp 28) 22 rfl 3 i3 (.int .i64 0) 1 8 Try.underlying22 hi3 hz3 hsz3 hby3 rfl a1 _ c1 _ rfl (hs1.only (Only.alloc (Only.refl [] _) _) (by simp)) ⟨_, 0, none⟩ 1 1 [.int .i64 s] rfl rfl (cell_one_new _ _ _) (by simp; rfl) hm (by omega) ?_))
  clear g1 g2 g3 g4 e0 e3 e4
  intro a1' c1' w1 hs1' hg1 hbl1
  have hp1 : w1.heap[p]? = _ := (hg1.block p (by simp; omega) (fun e => hb1 e.symm)).trans ((Below.heap_alloc _ _ _ hpl).trans hp)
  have O1 : Only (p :: T) w w1 := Only.trans ((Only.refl _ _).alloc _) (Only.of_grown hg1 (fun k hk => List.mem_cons_of_mem _ (hT1 k hk)))
  have hb1' : blk a1' ≠ some p := by
    rcases hbl1 with h | h
    · rw [h]; exact hb1
    · rw [h]; simp; omega
  have hb12 : ∀ k, blk a1' = some k → blk a2 ≠ some k := by
    intro k hk h2
    rcases hbl1 with h | h
    · exact hb3 k (h.symm.trans hk) h2
    · rw [h] at hk; simp at hk; have := hs2.lt h2; omega
  have hs2w : Sl w1 3 1 a2 H.length c2 (H.map fun x => .int .i64 x.2) := hs2.kept fun k hk => (hg1.block k (by have := hs2.lt hk; simp; omega) (fun e => hb3 k e.symm hk)).trans (Below.heap_alloc _ _ _ (hs2.lt hk))
  have hw1s : w.heap.size + 1 ≤ w1.heap.size := by have := hg1.size; simpa using this
  have hT1' : ∀ k, blk a1' = some k → k ∈ T ∨ w.heap.size ≤ k := by
    intro k hk
    rcases hbl1 with h | h
    · exact .inl (hT1 k (h.symm.trans hk))
    · rw [h] at hk; simp at hk; exact .inr (by omega)
  clear hs1 hs2 hg1 hbl1 hp hT1 hb1 hb3
  have e3 := cell_of hp1 3
  have fz3 := frozen_of hp1 3
  simp at e3
  go_upto_region 4 with (fail)
  have hs2x : Sl (w1.setCell ⟨p, 3, none⟩ (.slice a1' (H.length + 1) c1')) 3 1 a2 H.length c2 (H.map fun x => .int .i64 x.2) := hs2w.kept fun k hk => heap_setCell_ne (fun e => hb2 (hk.trans (congrArg some e))) _
  have hs1x : Sl (w1.setCell ⟨p, 3, none⟩ (.slice a1' (H.length + 1) c1')) 3 1 a1' (H.length + 1) c1' (H.map (fun x => .int .i64 x.1) ++ [.int .i64 s]) := hs1'.kept fun k hk => heap_setCell_ne (fun e => hb1' (hk.trans (congrArg some e))) _
  have hp2 := set3 hp1 (.slice a1' (H.length + 1) c1')
  have O2 : Only (p :: T) w (w1.setCell ⟨p, 3, none⟩ (.slice a1' (H.length + 1) c1')) := O1.setCell (.inl (by simp)) _
  have hw2s : w.heap.size + 1 ≤ (w1.setCell ⟨p, 3, none⟩ (.slice a1' (H.length + 1) c1')).heap.size := by simp [World.setCell]; omega
  clear hs1' hs2w hp1 O1 e3 fz3
  generalize (w1.setCell ⟨p, 3, none⟩ (.slice a1' (H.length + 1) c1')) = w2 at *
  have e4 := cell_of hp2 4
  simp at e4
  go_wp2_with (first | (at_builtin; refine wpList_append_sl _ rfl (.tmp 36) (.tmp 38) 22 rfl 3 i3 (.int .i64 0) 1 8 Try.underlying22 hi3 hz3 hsz3 hby3 rfl a2 _ c2 _ rfl (hs2x.only (Only.alloc (Only.refl [] _) _) (by simp)) ⟨_, 0, none⟩ 1 1 [.int .i64 x] rfl rfl (cell_one_new _ _ _) (by simp; rfl) hm (by omega) ?_))
  intro a2' c2' w3 hs2' hg2 hbl2
  clear e4
  have hp3 : w3.heap[p]? = _ := (hg2.block p (by have := lt_of_block hp2; simp; omega) (fun e => hb2 e.symm)).trans ((Below.heap_alloc _ _ _ (lt_of_block hp2)).trans hp2)
  have O3 : Only (p :: T) w w3 := O2.trans (Only.trans ((Only.refl _ _).alloc _) (Only.of_grown hg2 (fun k hk => List.mem_cons_of_mem _ (hT2 k hk))))
  have hs1y : Sl w3 3 1 a1' (H.length + 1) c1' (H.map (fun x => .int .i64 x.1) ++ [.int .i64 s]) := hs1x.kept fun k hk => (hg2.block k (by have := hs1x.lt hk; simp; omega) (fun e => hb12 k hk e.symm)).trans (Below.heap_alloc _ _ _ (hs1x.lt hk))
  have hb2' : blk a2' ≠ some p := by
    rcases hbl2 with h | h
    · rw [h]; exact hb2
    · rw [h]; simp; omega
  have hb12' : ∀ k, blk a1' = some k → blk a2' ≠ some k := by
    intro k hk h2
    rcases hbl2 with h | h
    · exact hb12 k hk (h.symm.trans h2)
    · rw [h] at h2; simp at h2; have := hs1x.lt hk; omega
  have hT2' : ∀ k, blk a2' = some k → k ∈ T ∨ w.heap.size ≤ k := by
    intro k hk
    rcases hbl2 with h | h
    · exact .inl (hT2 k (h.symm.trans hk))
    · rw [h] at hk; simp at hk; exact .inr (by omega)
  clear hs1x hs2x hp2 O2 hg2 hbl2 hb2 hT2 hb12
  have e4 := cell_of hp3 4
  have fz4 := frozen_of hp3 4
  simp at e4
  go_upto_region 5 with (fail)
  have hs2z : Sl (w3.setCell ⟨p, 4, none⟩ (.slice a2' (H.length + 1) c2')) 3 1 a2' (H.length + 1) c2' (H.map (fun x => .int .i64 x.2) ++ [.int .i64 x]) := hs2'.kept fun k hk => heap_setCell_ne (fun e => hb2' (hk.trans (congrArg some e))) _
  have hs1z : Sl (w3.setCell ⟨p, 4, none⟩ (.slice a2' (H.length + 1) c2')) 3 1 a1' (H.length + 1) c1' (H.map (fun x => .int .i64 x.1) ++ [.int .i64 s]) := hs1y.kept fun k hk => heap_setCell_ne (fun e => hb1' (hk.trans (congrArg some e))) _
  have hp4 := set4 hp3 (.slice a2' (H.length + 1) c2')
  have O4 : Only (p :: T) w (w3.setCell ⟨p, 4, none⟩ (.slice a2' (H.length + 1) c2')) := O3.setCell (.inl (by simp)) _
  clear hs1y hs2' hp3 O3 e4 fz4
  generalize (w3.setCell ⟨p, 4, none⟩ (.slice a2' (H.length + 1) c2')) = w4 at *
  have e0 := cell_of hp4 0
  have e3 := cell_of hp4 3
  simp at e0 e3
  refine wp_region_reads mixedR (by kernel_rfl) ?_
  repeat (refine wpStill_op rfl rfl (fun K hK => ?_); go_step; refine hK _ ?_; clear hK K)
  refine wpStill_nil ?_
  by_cases hlt : n < H.length + 1
  · have hd : decide ((n : Int) < (H.length : Int) + 1) = true := by simp; omega
    clear e0
    have fz3 := frozen_of hp4 3
    go_wp2_with (refine wpList_slice1_sl (o := ⟨some 57, _, _, _, _, _⟩) _ rfl (.tmp 56) 22 rfl 3 i3 1 Try.underlying22 hi3 hsz3 a1' _ c1' _ rfl (hs1z.only (Only.drew (Only.refl [] _)) (by simp)) (by omega) ?_)
    intro b1 hsb1 hbb1
    have hp5 : w4.drew.heap[p]? = _ := hp4
    have O5 := O4.drew
    have e35 : w4.drew.cell? ⟨p, 3, none⟩ = _ := e3
    have fz35 : w4.drew.frozen? ⟨p, 3, none⟩ = _ := fz3
    have hs2a : Sl w4.drew 3 1 a2' (H.length + 1) c2' _ := hs2z.only (Only.drew (Only.refl [] _)) (by simp)
    clear hp4 O4 e3 fz3 hs1z hs2z hd
    generalize w4.drew = w5 at *
    have hb1b : blk b1 ≠ some p := by rw [hbb1]; exact hb1'
    go_upto_region 7 with (fail)
    have hs2b : Sl (w5.setCell ⟨p, 3, none⟩ (.slice b1 H.length (c1' - 1))) 3 1 a2' (H.length + 1) c2' _ := hs2a.kept fun k hk => heap_setCell_ne (fun e => hb2' (hk.trans (congrArg some e))) _
    have hs1b : Sl (w5.setCell ⟨p, 3, none⟩ (.slice b1 H.length (c1' - 1))) 3 1 b1 H.length (c1' - 1) _ := hsb1.kept fun k hk => heap_setCell_ne (fun e => hb1b (hk.trans (congrArg some e))) _
    have hp6 := set3 hp5 (.slice b1 H.length (c1' - 1))
    have O6 : Only (p :: T) w (w5.setCell ⟨p, 3, none⟩ (.slice b1 H.length (c1' - 1))) := O5.setCell (.inl (by simp)) _
    clear hp5 O5 e35 fz35 hs2a hsb1
    generalize (w5.setCell ⟨p, 3, none⟩ (.slice b1 H.length (c1' - 1))) = w6 at *
    have e4 := cell_of hp6 4
    have fz4 := frozen_of hp6 4
    simp at e4
    go_wp2_with (refine wpList_slice1_sl (o := ⟨some 65, _, _, _, _, _⟩) _ rfl (.tmp 64) 22 rfl 3 i3 1 Try.underlying22 hi3 hsz3 a2' _ c2' _ rfl hs2b (by omega) ?_)
    intro b2 hsb2 hbb2
    have hb2b : blk b2 ≠ some p := by rw [hbb2]; exact hb2'
    go_wp2
    go_ret
    refine ⟨rfl, (blk b1).toList ++ (blk b2).toList, ?_, O6.setCell (.inl (by simp)) _, ?_⟩
    · have : nextH n H (s, x) = (H ++ [(s, x)]).tail := by unfold nextH; rw [if_pos hlt]
      rw [this]
      have hl : ((H ++ [(s, x)]).tail).length = H.length := by simp
      refine ⟨b1, c1' - 1, b2, c2' - 1, by rw [hl]; exact set4 hp6 _, ?_, ?_, hb1b, hb2b, fun k hk => ?_, fun k hk => by simp [hk], fun k hk => by simp [hk]⟩
      · rw [hl]
        have := hs1b.kept (w' := w6.setCell ⟨p, 4, none⟩ (.slice b2 H.length (c2' - 1))) fun k hk => heap_setCell_ne (fun e => hb1b (hk.trans (congrArg some e))) _
        simpa [List.map_tail] using this
      · rw [hl]
        have := hsb2.kept (w' := w6.setCell ⟨p, 4, none⟩ (.slice b2 H.length (c2' - 1))) fun k hk => heap_setCell_ne (fun e => hb2b (hk.trans (congrArg some e))) _
        simpa [List.map_tail] using this
      · rw [hbb2]; rw [hbb1] at hk; exact hb12' k hk
    · intro k hk
      simp at hk
      rcases hk with h | h
      · rw [hbb1] at h; exact hT1' k h
      · rw [hbb2] at h; exact hT2' k h
  · have hd : decide ((n : Int) < (H.length : Int) + 1) = false := by simp; omega
    go_wp2
    go_ret
    refine ⟨rfl, (blk a1').toList ++ (blk a2').toList, ?_, O4.drew, ?_⟩
    · have : nextH n H (s, x) = H ++ [(s, x)] := by unfold nextH; rw [if_neg hlt]
      rw [this]
      exact ⟨a1', c1', a2', c2', by rw [heap_drew, hp4]; simp, by simpa using hs1z.only (Only.drew (Only.refl [] _)) (by simp), by simpa using hs2z.only (Only.drew (Only.refl [] _)) (by simp), hb1', hb2', hb12', fun k hk => by simp [hk], fun k hk => by simp [hk]⟩
    · intro k hk
      simp at hk
      rcases hk with h | h
      · exact hT1' k h
      · exact hT2' k h

/-- the sums of a list's front. -/
theorem s1_take (H : List (Int × Int)) (k : Nat) (hk : k < H.length) : s1 (H.take (k + 1)) = s1 (H.take k) + H[k].1 := by
  rw [List.take_succ_eq_append_getElem hk, s1_append]; simp [s1]
theorem s2_take (H : List (Int × Int)) (k : Nat) (hk : k < H.length) : s2 (H.take (k + 1)) = s2 (H.take k) + H[k].2 := by
  rw [List.take_succ_eq_append_getElem hk, s2_append]; simp [s2]

set_option maxHeartbeats 1000000 in
theorem rgood_walk (p n : Nat) (g o : Int) (H : List (Int × Int)) (T : List Nat) (w : World) (hrep : RRep w p n g o H T) (hH : H.length ≤ 32) (hok : ∀ x ∈ H, Ok x)
    (h1 : 0 ≤ g) (h2 : g ≤ 1000) (h3 : 0 ≤ o) (h4 : o ≤ 1000) :
    Calls Try.prog 16 #[.pointer (some ⟨p, 0, none⟩)] w fun e w' => e = .returned (.bool (decide (s1 H * g ≤ s2 H * o))) ∧ w.drew = w' := by
  obtain ⟨a1, c1, a2, c2, hp, hs1, hs2, hb1, hb2, hb3, hT1, hT2⟩ := hrep
  have e1 := cell_of hp 1
  have e2 := cell_of hp 2
  have e3 := cell_of hp 3
  have e4 := cell_of hp 4
  simp at e1 e2 e3 e4
  have bd : ∀ k, 0 ≤ s2 (H.take k) ∧ s2 (H.take k) ≤ s1 (H.take k) ∧ s1 (H.take k) ≤ 68719476736 := by
    intro k
    have := s_bd (H.take k) (fun x hx => hok x (List.mem_of_mem_take hx))
    have : (H.take k).length ≤ 32 := by rw [List.length_take]; omega
    omega
  clear hp hb1 hb2 hb3 hT1 hT2
  go_enter Try.func16, Try.ntmps16
  go_wp2
  go_loop [3, 4, 5] (fun a b i => ∃ k : Nat, k ≤ H.length ∧ i = .int .i64 k ∧ a = .int .i64 (s1 (H.take k)) ∧ b = .int .i64 (s2 (H.take k))) (fun _ _ i => H.length - (intOf i).toNat)
  case atStart => exact ⟨0, Nat.zero_le _, rfl, rfl, rfl⟩
  case round =>
    obtain ⟨k, hk, rfl, rfl, rfl⟩ := hrel
    by_cases hlt : k < H.length
    · obtain ⟨g1, o1, rfl⟩ := hs1.some (by omega)
      obtain ⟨g2, o2, rfl⟩ := hs2.some (by omega)
      have d1 := hs1.cells k (.int .i64 H[k].1) (by simp [hlt])
      have d2 := hs2.cells k (.int .i64 H[k].2) (by simp [hlt])
      have hx := hok H[k] (List.getElem_mem hlt)
      unfold Ok at hx
      obtain ⟨x1, x2, x3⟩ := hx
      obtain ⟨t1, t2, t3⟩ := bd k
      have HS1 : Hid (s1 (H.take (k + 1)) = s1 (H.take k) + H[k].1) := s1_take H k hlt
      have HS2 : Hid (s2 (H.take (k + 1)) = s2 (H.take k) + H[k].2) := s2_take H k hlt
      clear bd hs1 hs2 hok
      generalize H[k].1 = y1 at *
      generalize H[k].2 = y2 at *
      go_wp2
      go_round
      case rel => exact ⟨k + 1, by omega, by go_num, by rw [HS1.out], by rw [HS2.out]⟩
      case measure => simp [intOf]; omega
    · have hkn : k = H.length := by omega
      subst hkn
      rw [List.take_length] at *
      obtain ⟨t1, t2, t3⟩ := bd H.length
      rw [List.take_length] at t1 t2 t3
      have m1 : 0 ≤ s2 H * o := Int.mul_nonneg t1 h3
      have m2 : s2 H * o ≤ 68719476736 * 1000 := Int.mul_le_mul (by omega) h4 h3 (by omega)
      have m3 : 0 ≤ s1 H * g := Int.mul_nonneg (by omega) h1
      have m4 : s1 H * g ≤ 68719476736 * 1000 := Int.mul_le_mul t3 h2 h1 (by omega)
      clear bd hs1 hs2 hok
      go_wp2
      refine wp_region_reads mixedR (by kernel_rfl) ?_
      repeat (refine wpStill_op rfl rfl (fun K hK => ?_); go_step; refine hK _ ?_; clear hK K)
      refine wpStill_nil ?_
      go_wp2
      go_ret
      exact ⟨rfl, rfl⟩
end Go.Proofs.Ytkmoakbebpibdaa

/- Contracts of chapter 23's document: withyref21's NewMeter, Tick. -/
import Derived.Test.YtpgjlkbjejlinaaLaws
import Derived.Deep.Cut
namespace Go.Proofs.Ytpgjlkbjejlinaa
open Go.RowKit
open Plain

theorem info3 : (Try.prog.info? 3).map (fun i => (i.zero, i.size, i.bytes)) = some (some (.int .i64 0), 1, 8) := by kernel_rfl

set_option maxHeartbeats 1000000 in
theorem rnew_bad (n h l k : Int) (w : World) (hb : mayB n h l k = false) :
    Calls Try.prog 11 #[.int .i64 n, .int .i64 h, .int .i64 l, .int .i64 k] w fun e w' => e = .returned (.tuple #[.pointer none, .int .i64 2300]) ∧ w = w' := by
  by_cases h0 : n < 1
  · have d0 : decide (n < 1) = true := by simpa using h0
    clear hb
    go_enter Try.func11, Try.ntmps11
    go_wp2_with fail
    go_ret2
    exact ⟨rfl, rfl⟩
  have d0 : decide (n < 1) = false := by simpa using h0
  by_cases h1 : 32 < n
  · have d1 : decide (32 < n) = true := by simpa using h1
    clear hb
    go_enter Try.func11, Try.ntmps11
    go_wp2_with fail
    go_ret2
    exact ⟨rfl, rfl⟩
  have d1 : decide (32 < n) = false := by simpa using h1
  by_cases h2 : h < 1
  · have d2 : decide (h < 1) = true := by simpa using h2
    clear hb
    go_enter Try.func11, Try.ntmps11
    go_wp2_with fail
    go_ret2
    exact ⟨rfl, rfl⟩
  have d2 : decide (h < 1) = false := by simpa using h2
  by_cases h3 : 1000 < h
  · have d3 : decide (1000 < h) = true := by simpa using h3
    clear hb
    go_enter Try.func11, Try.ntmps11
    go_wp2_with fail
    go_ret2
    exact ⟨rfl, rfl⟩
  have d3 : decide (1000 < h) = false := by simpa using h3
  by_cases h4 : l < 0
  · have d4 : decide (l < 0) = true := by simpa using h4
    clear hb
    go_enter Try.func11, Try.ntmps11
    go_wp2_with fail
    go_ret2
    exact ⟨rfl, rfl⟩
  have d4 : decide (l < 0) = false := by simpa using h4
  by_cases h5 : h ≤ l
  · have d5 : decide (h ≤ l) = true := by simpa using h5
    clear hb
    go_enter Try.func11, Try.ntmps11
    go_wp2_with fail
    go_ret2
    exact ⟨rfl, rfl⟩
  have d5 : decide (h ≤ l) = false := by simpa using h5
  by_cases h6 : k < 1
  · have d6 : decide (k < 1) = true := by simpa using h6
    clear hb
    go_enter Try.func11, Try.ntmps11
    go_wp2_with fail
    go_ret2
    exact ⟨rfl, rfl⟩
  have d6 : decide (k < 1) = false := by simpa using h6
  have d7 : decide (4096 < k) = true := by simp; simp [mayB] at hb; omega
  clear hb
  go_enter Try.func11, Try.ntmps11
  go_wp2_with fail
  go_ret2
  exact ⟨rfl, rfl⟩

set_option maxHeartbeats 1000000 in
theorem rnew_good (n h l k : Int) (w : World) (hb : mayB n h l k = true) :
    Calls Try.prog 11 #[.int .i64 n, .int .i64 h, .int .i64 l, .int .i64 k] w fun e w' => e = .returned (.tuple #[.pointer (some ⟨w.heap.size, 0, none⟩), .int .i64 0]) ∧
      w' = w.alloc (.cells #[.int .i64 0, .int .i64 n, .int .i64 h, .int .i64 l, .int .i64 k, .slice none 0 0, .slice none 0 0, .int .i64 0, .int .i64 0] 38) := by
  have hP : 1 ≤ n ∧ n ≤ 32 ∧ 1 ≤ h ∧ h ≤ 1000 ∧ 0 ≤ l ∧ l < h ∧ 1 ≤ k ∧ k ≤ 4096 := by simpa [mayB] using hb
  have d0 : decide (n < 1) = false := by simp; omega
  have d1 : decide (32 < n) = false := by simp; omega
  have d2 : decide (h < 1) = false := by simp; omega
  have d3 : decide (1000 < h) = false := by simp; omega
  have d4 : decide (l < 0) = false := by simp; omega
  have d5 : decide (h ≤ l) = false := by simp; omega
  have d6 : decide (k < 1) = false := by simp; omega
  have d7 : decide (4096 < k) = false := by simp; omega
  clear hb hP
  go_enter Try.func11, Try.ntmps11
  go_wp2_with fail
  go_ret2
  exact ⟨rfl, rfl⟩

theorem drew_heap {w : World} {p : Nat} {o : Option Obj} (h : w.heap[p]? = o) : w.drew.heap[p]? = o := h
set_option maxRecDepth 100000 in
set_option maxHeartbeats 1000000 in
theorem rtick_bad (p : Addr) (b r : Int) (w : World) (h : b < 0 ∨ 2147483647 < b ∨ r < 0 ∨ 2147483647 < r) :
    Calls Try.prog 15 #[.pointer (some p), .int .i64 b, .int .i64 r] w fun e w' => e = .returned (.tuple #[.int .i64 0, .int .i64 2300]) ∧ w = w' := by
  by_cases h0 : b < 0
  · have d0 : decide (b < 0) = true := by simpa using h0
    clear h
    go_enter Try.func15, Try.ntmps15
    go_wp2_with fail
    go_ret2
    exact ⟨rfl, rfl⟩
  have d0 : decide (b < 0) = false := by simpa using h0
  by_cases h1 : 2147483647 < b
  · have d1 : decide (2147483647 < b) = true := by simpa using h1
    clear h
    go_enter Try.func15, Try.ntmps15
    go_wp2_with fail
    go_ret2
    exact ⟨rfl, rfl⟩
  have d1 : decide (2147483647 < b) = false := by simpa using h1
  by_cases h2 : r < 0
  · have d2 : decide (r < 0) = true := by simpa using h2
    clear h
    go_enter Try.func15, Try.ntmps15
    go_wp2_with fail
    go_ret2
    exact ⟨rfl, rfl⟩
  have d2 : decide (r < 0) = false := by simpa using h2
  have d3 : decide (2147483647 < r) = true := by simp; omega
  clear h
  go_enter Try.func15, Try.ntmps15
  go_wp2_with fail
  go_ret2
  exact ⟨rfl, rfl⟩

/-- what the document's Meter is in memory: the last ticks, oldest first; T: the blocks of its two lists. -/
def RR (w : World) (p n : Nat) (h l k : Int) (H : List (Int × Int)) (sh ab be : Int) (T : List Nat) : Prop :=
  ∃ a1 c1 a2 c2, w.heap[p]? = some (.cells #[.int .i64 sh, .int .i64 n, .int .i64 h, .int .i64 l, .int .i64 k, .slice a1 H.length c1, .slice a2 H.length c2, .int .i64 ab, .int .i64 be] 38 (0, 0)) ∧
    Sl w 3 1 a1 H.length c1 (H.map fun x => .int .i64 x.1) ∧ Sl w 3 1 a2 H.length c2 (H.map fun x => .int .i64 x.2) ∧
    blk a1 ≠ some p ∧ blk a2 ≠ some p ∧ (∀ k, blk a1 = some k → blk a2 ≠ some k) ∧ (∀ k, blk a1 = some k → k ∈ T) ∧ (∀ k, blk a2 = some k → k ∈ T)
theorem RR.only {S : List Nat} {w w' : World} {p n : Nat} {h l k : Int} {H : List (Int × Int)} {sh ab be : Int} {T : List Nat} (m : RR w p n h l k H sh ab be T) (ho : Only S w w') (hp : p ∉ S) (hT : ∀ k ∈ T, k ∉ S) : RR w' p n h l k H sh ab be T := by
  obtain ⟨a1, c1, a2, c2, h1, h2, h3, h4, h5, h6, h7, h8⟩ := m
  exact ⟨a1, c1, a2, c2, ho.at h1 hp, h2.only ho (fun k hk => hT k (h7 k hk)), h3.only ho (fun k hk => hT k (h8 k hk)), h4, h5, h6, h7, h8⟩
theorem rset0 {w : World} {p : Nat} {c0 c1 c2 c3 c4 c5 c6 c7 c8 : Value} {t : TypeId} (h : w.heap[p]? = some (.cells #[c0, c1, c2, c3, c4, c5, c6, c7, c8] t (0, 0))) (v : Value) : (w.setCell ⟨p, 0, none⟩ v).heap[p]? = some (.cells #[v, c1, c2, c3, c4, c5, c6, c7, c8] t (0, 0)) := by
  simpa using heap_setCell_same (o := 0) h v
theorem rset5 {w : World} {p : Nat} {c0 c1 c2 c3 c4 c5 c6 c7 c8 : Value} {t : TypeId} (h : w.heap[p]? = some (.cells #[c0, c1, c2, c3, c4, c5, c6, c7, c8] t (0, 0))) (v : Value) : (w.setCell ⟨p, 5, none⟩ v).heap[p]? = some (.cells #[c0, c1, c2, c3, c4, v, c6, c7, c8] t (0, 0)) := by
  simpa using heap_setCell_same (o := 5) h v
theorem rset6 {w : World} {p : Nat} {c0 c1 c2 c3 c4 c5 c6 c7 c8 : Value} {t : TypeId} (h : w.heap[p]? = some (.cells #[c0, c1, c2, c3, c4, c5, c6, c7, c8] t (0, 0))) (v : Value) : (w.setCell ⟨p, 6, none⟩ v).heap[p]? = some (.cells #[c0, c1, c2, c3, c4, c5, v, c7, c8] t (0, 0)) := by
  simpa using heap_setCell_same (o := 6) h v
theorem rset7 {w : World} {p : Nat} {c0 c1 c2 c3 c4 c5 c6 c7 c8 : Value} {t : TypeId} (h : w.heap[p]? = some (.cells #[c0, c1, c2, c3, c4, c5, c6, c7, c8] t (0, 0))) (v : Value) : (w.setCell ⟨p, 7, none⟩ v).heap[p]? = some (.cells #[c0, c1, c2, c3, c4, c5, c6, v, c8] t (0, 0)) := by
  simpa using heap_setCell_same (o := 7) h v
theorem rset8 {w : World} {p : Nat} {c0 c1 c2 c3 c4 c5 c6 c7 c8 : Value} {t : TypeId} (h : w.heap[p]? = some (.cells #[c0, c1, c2, c3, c4, c5, c6, c7, c8] t (0, 0))) (v : Value) : (w.setCell ⟨p, 8, none⟩ v).heap[p]? = some (.cells #[c0, c1, c2, c3, c4, c5, c6, c7, v] t (0, 0)) := by
  simpa using heap_setCell_same (o := 8) h v

/-- the window that follows. -/
def nextH (n : Nat) (H : List (Int × Int)) (x : Int × Int) : List (Int × Int) := if n < H.length + 1 then (H ++ [x]).tail else H ++ [x]
theorem s1_take (H : List (Int × Int)) (k : Nat) (hk : k < H.length) : s1 (H.take (k + 1)) = s1 (H.take k) + H[k].1 := by
  rw [List.take_succ_eq_append_getElem hk, s1_append]; simp [s1]
theorem s2_take (H : List (Int × Int)) (k : Nat) (hk : k < H.length) : s2 (H.take (k + 1)) = s2 (H.take k) + H[k].2 := by
  rw [List.take_succ_eq_append_getElem hk, s2_append]; simp [s2]
def rab (d ab k : Int) : Int := if d = 1 then (if ab + 1 < k then ab + 1 else 0) else 0
def rbe (d be k : Int) : Int := if d = -1 then (if be + 1 < k then be + 1 else 0) else 0
def rans (d ab be k : Int) : Int := if d = 1 then (if ab + 1 < k then 0 else 1) else if d = -1 then (if be + 1 < k then 0 else -1) else 0

set_option maxRecDepth 100000 in
set_option maxHeartbeats 8000000 in
theorem rtick_walk (p n : Nat) (h l k b r sh ab be : Int) (H : List (Int × Int)) (T : List Nat) (w : World) (hrep : RR w p n h l k H sh ab be T) (hn : 1 ≤ n) (hn' : n ≤ 32) (hH : H.length ≤ n)
    (hok : ∀ x ∈ nextH n H (b, r), Ok x) (hs : 0 ≤ b) (hs' : b ≤ 2147483647) (hx : 0 ≤ r) (hx' : r ≤ 2147483647) (hk1 : 1 ≤ k) (hk2 : k ≤ 4096) (ha1 : 0 ≤ ab) (ha2 : ab < k) (hb1 : 0 ≤ be) (hb2 : be < k) :
    Calls Try.prog 15 #[.pointer (some ⟨p, 0, none⟩), .int .i64 b, .int .i64 r] w fun e w' =>
      e = .returned (.tuple #[.int .i64 (rans (dirOf (shareOf (nextH n H (b, r))) h l) ab be k), .int .i64 0]) ∧
      ∃ T', RR w' p n h l k (nextH n H (b, r)) (shareOf (nextH n H (b, r))) (rab (dirOf (shareOf (nextH n H (b, r))) h l) ab k) (rbe (dirOf (shareOf (nextH n H (b, r))) h l) be k) T' ∧ Only (p :: T) w w' ∧ ∀ k ∈ T', k ∈ T ∨ w.heap.size ≤ k := by
  obtain ⟨G0, hG0⟩ : ∃ G0, nextH n H (b, r) = G0 := ⟨_, rfl⟩
  obtain ⟨SH, hSH⟩ : ∃ SH, shareOf G0 = SH := ⟨_, rfl⟩
  rw [hG0, hSH]
  have HG0 := Lib.hid hG0
  have HSH0 := Lib.hid hSH
  clear hG0 hSH
  obtain ⟨a1, c1, a2, c2, hp, hs1, hs2, hbk1, hbk2, hb3, hT1, hT2⟩ := hrep
  have hpl := lt_of_block hp
  have e5 := cell_of hp 5
  simp only [List.getElem?_toArray, List.getElem?_cons_succ, List.getElem?_cons_zero] at e5
  have g1 : decide (b < 0) = false := by simp; omega
  have g2 : decide (2147483647 < b) = false := by simp; omega
  have g3 : decide (r < 0) = false := by simp; omega
  have g4 : decide (2147483647 < r) = false := by simp; omega
  obtain ⟨i3, hi3, hz3, hsz3, hby3⟩ := info_parts info3
  have hl32 : H.length ≤ 32 := by omega
  have hm : H.length + 1 ≤ maxLen := by unfold maxLen; omega
  have HOK := Lib.hid hok
  clear hok
  go_enter Try.func15, Try.ntmps15
  go_wp2_with (first | (at_builtin; refine wpList_append_sl _ rfl (.tmp 29) (.tmp 31) 22 rfl 3 i3 (.int .i64 0) 1 8 Try.underlying22 hi3 hz3 hsz3 hby3 rfl a1 _ c1 _ rfl (hs1.only (Only.alloc (Only.refl [] _) _) (by simp)) ⟨_, 0, none⟩ 1 1 [.int .i64 b] rfl rfl (cell_one_new _ _ _) (by simp; rfl) hm (by omega) ?_))
  clear g1 g2 g3 g4 e5
  intro a1' c1' w1 hs1' hg1 hbl1
  have hp1 : w1.heap[p]? = _ := (hg1.block p (by simp; omega) (fun e => hbk1 e.symm)).trans ((Below.heap_alloc _ _ _ hpl).trans hp)
  have O1 : Only (p :: T) w w1 := Only.trans ((Only.refl _ _).alloc _) (Only.of_grown hg1 (fun k hk => List.mem_cons_of_mem _ (hT1 k hk)))
  have hb1' : blk a1' ≠ some p := by
    rcases hbl1 with h | h
    · rw [h]; exact hbk1
    · rw [h]; simp; omega
  have hb12 : ∀ k, blk a1' = some k → blk a2 ≠ some k := by
    intro k hk h2
    rcases hbl1 with h | h
    · exact hb3 k (h.symm.trans hk) h2
    · rw [h] at hk; simp at hk; have := hs2.lt h2; omega
  have hs2w : Sl w1 3 1 a2 H.length c2 (H.map fun x => .int .i64 x.2) := hs2.kept fun k hk => (hg1.block k (by have := hs2.lt hk; simp; omega) (fun e => hb3 k e.symm hk)).trans (Below.heap_alloc _ _ _ (hs2.lt hk))
  have hw1s : w.heap.size + 1 ≤ w1.heap.size := by have := hg1.size; simpa using this
  have hT1' : ∀ k, blk a1' = some k → k ∈ T ∨ w.heap.size ≤ k := by
    intro k hk
    rcases hbl1 with h | h
    · exact .inl (hT1 k (h.symm.trans hk))
    · rw [h] at hk; simp at hk; exact .inr (by omega)
  clear hs1 hs2 hg1 hbl1 hp hT1 hbk1 hb3
  have e5 := cell_of hp1 5
  simp only [List.getElem?_toArray, List.getElem?_cons_succ, List.getElem?_cons_zero] at e5
  have fz5 := frozen_of hp1 5
  go_upto_region 4 with (fail)
  have hs2x : Sl (w1.setCell ⟨p, 5, none⟩ (.slice a1' (H.length + 1) c1')) 3 1 a2 H.length c2 (H.map fun x => .int .i64 x.2) := hs2w.kept fun k hk => heap_setCell_ne (fun e => hbk2 (hk.trans (congrArg some e))) _
  have hs1x : Sl (w1.setCell ⟨p, 5, none⟩ (.slice a1' (H.length + 1) c1')) 3 1 a1' (H.length + 1) c1' (H.map (fun x => .int .i64 x.1) ++ [.int .i64 b]) := hs1'.kept fun k hk => heap_setCell_ne (fun e => hb1' (hk.trans (congrArg some e))) _
  have hp2 := rset5 hp1 (.slice a1' (H.length + 1) c1')
  have O2 : Only (p :: T) w (w1.setCell ⟨p, 5, none⟩ (.slice a1' (H.length + 1) c1')) := O1.setCell (.inl (by simp)) _
  have hw2s : w.heap.size + 1 ≤ (w1.setCell ⟨p, 5, none⟩ (.slice a1' (H.length + 1) c1')).heap.size := by simp [World.setCell]; omega
  clear hs1' hs2w hp1 O1 e5 fz5
  generalize (w1.setCell ⟨p, 5, none⟩ (.slice a1' (H.length + 1) c1')) = w2 at *
  have e6 := cell_of hp2 6
  simp only [List.getElem?_toArray, List.getElem?_cons_succ, List.getElem?_cons_zero] at e6
  go_wp2_with (first | (at_builtin; refine wpList_append_sl _ rfl (.tmp 39) (.tmp 41) 22 rfl 3 i3 (.int .i64 0) 1 8 Try.underlying22 hi3 hz3 hsz3 hby3 rfl a2 _ c2 _ rfl (hs2x.only (Only.alloc (Only.refl [] _) _) (by simp)) ⟨_, 0, none⟩ 1 1 [.int .i64 r] rfl rfl (cell_one_new _ _ _) (by simp; rfl) hm (by omega) ?_))
  intro a2' c2' w3 hs2' hg2 hbl2
  clear e6
  have hp3 : w3.heap[p]? = _ := (hg2.block p (by have := lt_of_block hp2; simp; omega) (fun e => hbk2 e.symm)).trans ((Below.heap_alloc _ _ _ (lt_of_block hp2)).trans hp2)
  have O3 : Only (p :: T) w w3 := O2.trans (Only.trans ((Only.refl _ _).alloc _) (Only.of_grown hg2 (fun k hk => List.mem_cons_of_mem _ (hT2 k hk))))
  have hs1y : Sl w3 3 1 a1' (H.length + 1) c1' (H.map (fun x => .int .i64 x.1) ++ [.int .i64 b]) := hs1x.kept fun k hk => (hg2.block k (by have := hs1x.lt hk; simp; omega) (fun e => hb12 k hk e.symm)).trans (Below.heap_alloc _ _ _ (hs1x.lt hk))
  have hb2' : blk a2' ≠ some p := by
    rcases hbl2 with h | h
    · rw [h]; exact hbk2
    · rw [h]; simp; omega
  have hb12' : ∀ k, blk a1' = some k → blk a2' ≠ some k := by
    intro k hk h2
    rcases hbl2 with h | h
    · exact hb12 k hk (h.symm.trans h2)
    · rw [h] at h2; simp at h2; have := hs1x.lt hk; omega
  have hT2' : ∀ k, blk a2' = some k → k ∈ T ∨ w.heap.size ≤ k := by
    intro k hk
    rcases hbl2 with h | h
    · exact .inl (hT2 k (h.symm.trans hk))
    · rw [h] at hk; simp at hk; exact .inr (by omega)
  clear hs1x hs2x hp2 O2 hg2 hbl2 hbk2 hT2 hb12
  have e6 := cell_of hp3 6
  simp only [List.getElem?_toArray, List.getElem?_cons_succ, List.getElem?_cons_zero] at e6
  have fz6 := frozen_of hp3 6
  go_upto_region 5 with (fail)
  have hs2z : Sl (w3.setCell ⟨p, 6, none⟩ (.slice a2' (H.length + 1) c2')) 3 1 a2' (H.length + 1) c2' (H.map (fun x => .int .i64 x.2) ++ [.int .i64 r]) := hs2'.kept fun k hk => heap_setCell_ne (fun e => hb2' (hk.trans (congrArg some e))) _
  have hs1z : Sl (w3.setCell ⟨p, 6, none⟩ (.slice a2' (H.length + 1) c2')) 3 1 a1' (H.length + 1) c1' (H.map (fun x => .int .i64 x.1) ++ [.int .i64 b]) := hs1y.kept fun k hk => heap_setCell_ne (fun e => hb1' (hk.trans (congrArg some e))) _
  have hp4 := rset6 hp3 (.slice a2' (H.length + 1) c2')
  have O4 : Only (p :: T) w (w3.setCell ⟨p, 6, none⟩ (.slice a2' (H.length + 1) c2')) := O3.setCell (.inl (by simp)) _
  clear hs1y hs2' hp3 O3 e6 fz6
  generalize (w3.setCell ⟨p, 6, none⟩ (.slice a2' (H.length + 1) c2')) = w4 at *
  have e1 := cell_of hp4 1
  have e5 := cell_of hp4 5
  simp only [List.getElem?_toArray, List.getElem?_cons_succ, List.getElem?_cons_zero] at e1 e5
  refine wp_region_reads mixed (by kernel_rfl) ?_
  repeat (refine wpStill_op rfl rfl (fun K hK => ?_); go_step; refine hK _ ?_; clear hK K)
  refine wpStill_nil ?_
  clear e1
  go_upto_if 54 with fail
  go_cut [] from 11 (fun wx => ∃ T', RR wx p n h l k (nextH n H (b, r)) sh ab be T' ∧ Only (p :: T) w wx ∧ ∀ k ∈ T', k ∈ T ∨ w.heap.size ≤ k)
  case first =>
    by_cases hlt : n < H.length + 1
    · have hd : decide ((n : Int) < (H.length : Int) + 1) = true := by simp; omega
      have fz5 := frozen_of hp4 5
      go_wp2_with (refine wpList_slice1_sl (o := ⟨some 60, _, _, _, _, _⟩) _ rfl (.tmp 59) 22 rfl 3 i3 1 Try.underlying22 hi3 hsz3 a1' _ c1' _ rfl (hs1z.only (Only.drew (Only.refl [] _)) (by simp)) (by omega) ?_)
      intro b1 hsb1 hbb1
      have hp5 : w4.drew.heap[p]? = _ := hp4
      have O5 := O4.drew
      have e35 : w4.drew.cell? ⟨p, 5, none⟩ = _ := e5
      have fz35 : w4.drew.frozen? ⟨p, 5, none⟩ = _ := fz5
      have hs2a : Sl w4.drew 3 1 a2' (H.length + 1) c2' _ := hs2z.only (Only.drew (Only.refl [] _)) (by simp)
      clear hp4 O4 e5 fz5 hs1z hs2z hd
      generalize w4.drew = w5 at *
      have hb1b : blk b1 ≠ some p := by rw [hbb1]; exact hb1'
      go_upto_region 7 with (fail)
      have hs2b : Sl (w5.setCell ⟨p, 5, none⟩ (.slice b1 H.length (c1' - 1))) 3 1 a2' (H.length + 1) c2' _ := hs2a.kept fun k hk => heap_setCell_ne (fun e => hb2' (hk.trans (congrArg some e))) _
      have hs1b : Sl (w5.setCell ⟨p, 5, none⟩ (.slice b1 H.length (c1' - 1))) 3 1 b1 H.length (c1' - 1) _ := hsb1.kept fun k hk => heap_setCell_ne (fun e => hb1b (hk.trans (congrArg some e))) _
      have hp6 := rset5 hp5 (.slice b1 H.length (c1' - 1))
      have O6 : Only (p :: T) w (w5.setCell ⟨p, 5, none⟩ (.slice b1 H.length (c1' - 1))) := O5.setCell (.inl (by simp)) _
      clear hp5 O5 e35 fz35 hs2a hsb1
      generalize (w5.setCell ⟨p, 5, none⟩ (.slice b1 H.length (c1' - 1))) = w6 at *
      have e6 := cell_of hp6 6
      simp only [List.getElem?_toArray, List.getElem?_cons_succ, List.getElem?_cons_zero] at e6
      have fz6 := frozen_of hp6 6
      go_wp2_with (refine wpList_slice1_sl (o := ⟨some 68, _, _, _, _, _⟩) _ rfl (.tmp 67) 22 rfl 3 i3 1 Try.underlying22 hi3 hsz3 a2' _ c2' _ rfl hs2b (by omega) ?_)
      intro b2 hsb2 hbb2
      have hb2b : blk b2 ≠ some p := by rw [hbb2]; exact hb2'
      go_wp2
      go_meet
      case rel =>
        refine ⟨(blk b1).toList ++ (blk b2).toList, ?_, O6.setCell (.inl (by simp)) _, ?_⟩
        · have : nextH n H (b, r) = (H ++ [(b, r)]).tail := by unfold nextH; rw [if_pos hlt]
          rw [this]
          have hl : ((H ++ [(b, r)]).tail).length = H.length := by simp
          refine ⟨b1, c1' - 1, b2, c2' - 1, by rw [hl]; exact rset6 hp6 _, ?_, ?_, hb1b, hb2b, fun k hk => ?_, fun k hk => by simp [hk], fun k hk => by simp [hk]⟩
          · rw [hl]
            have := hs1b.kept (w' := w6.setCell ⟨p, 6, none⟩ (.slice b2 H.length (c2' - 1))) fun k hk => heap_setCell_ne (fun e => hb1b (hk.trans (congrArg some e))) _
            simpa [List.map_tail] using this
          · rw [hl]
            have := hsb2.kept (w' := w6.setCell ⟨p, 6, none⟩ (.slice b2 H.length (c2' - 1))) fun k hk => heap_setCell_ne (fun e => hb2b (hk.trans (congrArg some e))) _
            simpa [List.map_tail] using this
          · rw [hbb2]; rw [hbb1] at hk; exact hb12' k hk
        · intro k hk
          simp at hk
          rcases hk with h | h
          · rw [hbb1] at h; exact hT1' k h
          · rw [hbb2] at h; exact hT2' k h
    · have hd : decide ((n : Int) < (H.length : Int) + 1) = false := by simp; omega
      go_wp2
      go_meet
      case rel =>
        refine ⟨(blk a1').toList ++ (blk a2').toList, ?_, O4.drew, ?_⟩
        · have : nextH n H (b, r) = H ++ [(b, r)] := by unfold nextH; rw [if_neg hlt]
          rw [this]
          exact ⟨a1', c1', a2', c2', by rw [heap_drew, hp4]; simp, by simpa using hs1z.only (Only.drew (Only.refl [] _)) (by simp), by simpa using hs2z.only (Only.drew (Only.refl [] _)) (by simp), hb1', hb2', hb12', fun k hk => by simp [hk], fun k hk => by simp [hk]⟩
        · intro k hk
          simp at hk
          rcases hk with h | h
          · exact hT1' k h
          · exact hT2' k h
  case rest =>
    have hGl : (nextH n H (b, r)).length ≤ 32 := by
      unfold nextH
      split
      · simp; omega
      · rw [List.length_append]; simp; omega
    clear hp4 hs1z hs2z hT1' hT2' hb12' hb1' hb2' O4 e5 hw1s hw2s hm hl32
    obtain ⟨T', hR, O5, hT'⟩ := hcut
    have HT' := Lib.hid hT'
    clear hT'
    generalize nextH n H (b, r) = G at *
    obtain ⟨a1, c1, a2, c2, hp, hs1, hs2, hbk1, hbk2, hb3, hT1, hT2⟩ := hR
    have HREST : Hid (∀ wz sz az bz, wz.heap[p]? = some (.cells #[.int .i64 sz, .int .i64 n, .int .i64 h, .int .i64 l, .int .i64 k, .slice a1 G.length c1, .slice a2 G.length c2, .int .i64 az, .int .i64 bz] 38 (0, 0)) → Only [p] wc wz → RR wz p n h l k G sz az bz T' ∧ Only (p :: T) w wz) := by
      intro wz sz az bz hz hO
      refine ⟨⟨a1, c1, a2, c2, hz, hs1.only hO (fun k hk e => hbk1 (by rw [hk]; simpa using e)), hs2.only hO (fun k hk e => hbk2 (by rw [hk]; simpa using e)), hbk1, hbk2, hb3, hT1, hT2⟩, O5.trans ?_⟩
      exact hO.mono (by simp)
    clear hbk1 hbk2 hb3 hT1 hT2 O5
    have bd : ∀ j, 0 ≤ s1 (G.take j) ∧ s1 (G.take j) ≤ 68719476736 ∧ 0 ≤ s2 (G.take j) ∧ s2 (G.take j) ≤ 68719476736 := by
      intro j
      have := s_bd (G.take j) (fun x hx => HOK.out x (List.mem_of_mem_take hx))
      have : (G.take j).length ≤ 32 := by rw [List.length_take]; omega
      omega
    have e5 := cell_of hp 5
    have e6 := cell_of hp 6
    simp only [List.getElem?_toArray, List.getElem?_cons_succ, List.getElem?_cons_zero] at e5 e6
    go_wp2_with fail
    go_loop [8, 9, 10] (fun a b i => ∃ j : Nat, j ≤ G.length ∧ i = .int .i64 j ∧ a = .int .i64 (s1 (G.take j)) ∧ b = .int .i64 (s2 (G.take j))) (fun _ _ i => G.length - (intOf i).toNat)
    case atStart => exact ⟨0, Nat.zero_le _, rfl, rfl, rfl⟩
    case round =>
      obtain ⟨j, hj, rfl, rfl, rfl⟩ := hrel
      by_cases hlt : j < G.length
      · obtain ⟨g1, o1, rfl⟩ := hs1.some (by omega)
        obtain ⟨g2, o2, rfl⟩ := hs2.some (by omega)
        have d1 := hs1.cells j (.int .i64 G[j].1) (by simp [hlt])
        have d2 := hs2.cells j (.int .i64 G[j].2) (by simp [hlt])
        have hx := HOK.out G[j] (List.getElem_mem hlt)
        unfold Ok at hx
        obtain ⟨x1, x2, x3, x4⟩ := hx
        obtain ⟨t1, t2, t3, t4⟩ := bd j
        have HS1 : Hid (s1 (G.take (j + 1)) = s1 (G.take j) + G[j].1) := s1_take G j hlt
        have HS2 : Hid (s2 (G.take (j + 1)) = s2 (G.take j) + G[j].2) := s2_take G j hlt
        clear bd hs1 hs2 hp
        generalize G[j].1 = y1 at *
        generalize G[j].2 = y2 at *
        go_wp2
        go_round
        case rel => exact ⟨j + 1, by omega, by go_num, by rw [HS1.out], by rw [HS2.out]⟩
        case measure => simp [intOf]; omega
      · have hkn : j = G.length := by omega
        subst hkn
        rw [List.take_length] at *
        obtain ⟨t1, t2, t3, t4⟩ := bd G.length
        rw [List.take_length] at t1 t2 t3 t4
        clear bd hs1 hs2
        have hshr : shareOf G = shr (s1 G) (s2 G) := rfl
        have HSS := Lib.hid (show SH = shr (s1 G) (s2 G) by rw [← HSH0.out, ← HG0.out]; rfl)
        have fz0 := frozen_of hp 0
        have e0 := cell_of hp 0
        simp only [List.getElem?_toArray, List.getElem?_cons_succ, List.getElem?_cons_zero] at e0
        rw [hshr] at *
        generalize s1 G = A at *
        generalize s2 G = B at *
        go_upto_if 102 with fail
        have hp2 := rset0 hp (.int .i64 0)
        have O2 : Only [p] wc (wc.setCell ⟨p, 0, none⟩ (.int .i64 0)) := (Only.refl _ _).setCell (.inl (by simp)) _
        clear hp e0 fz0 e5 e6 hshr
        generalize (wc.setCell ⟨p, 0, none⟩ (.int .i64 0)) = w2 at *
        go_cut [] from 11 (fun wx => wx.heap[p]? = some (.cells #[.int .i64 (shr A B), .int .i64 n, .int .i64 h, .int .i64 l, .int .i64 k, .slice a1 G.length c1, .slice a2 G.length c2, .int .i64 ab, .int .i64 be] 38 (0, 0)) ∧ Only [p] wc wx)
        case first =>
          have fz0 := frozen_of hp2 0
          have e0 := cell_of hp2 0
          simp only [List.getElem?_toArray, List.getElem?_cons_succ, List.getElem?_cons_zero] at e0
          by_cases hB : 0 < B
          · have hd : decide (0 < B) = true := by simpa using hB
            have hsh : shr A B = min 1000 (1000 * A / B) := if_pos hB
            have u5 : 0 ≤ 1000 * A / B := Int.ediv_nonneg (by omega) (by omega)
            have HSH := Lib.hid hsh
            clear hsh
            go_wp2_with ((with_reducible apply wpList_min); (focus rfl); (focus rfl))
            go_meet
            case rel =>
              rw [HSH.out]
              exact ⟨rset0 hp2 _, O2.setCell (.inl (by simp)) _⟩
          · have hd : decide (0 < B) = false := by simpa using hB
            have hsh : shr A B = 0 := if_neg hB
            have HSH := Lib.hid hsh
            clear hsh
            go_wp2
            go_meet
            case rel =>
              rw [HSH.out]
              exact ⟨hp2, O2⟩
        case rest =>
          clear hp2 O2 t2 t3 t4 HOK
          obtain ⟨hp, O2⟩ := hcut
          obtain ⟨s01, s02⟩ := shr_bd A B t1
          generalize shr A B = s at *
          have e0 := cell_of hp 0
          have e2 := cell_of hp 2
          simp only [List.getElem?_toArray, List.getElem?_cons_succ, List.getElem?_cons_zero] at e0 e2
          go_wp2_with fail
          refine wp_region_reads mixed (by kernel_rfl) ?_
          repeat (refine wpStill_op rfl rfl (fun K hK => ?_); go_step; refine hK _ ?_; clear hK K)
          refine wpStill_nil ?_
          clear e0 e2
          have hp3 := drew_heap hp
          have O3 := O2.drew
          clear hp O2
          generalize World.drew _ = we at *
          by_cases hh : h ≤ s
          · have hd : decide (h ≤ s) = true := by simpa using hh
            have HD : Hid (dirOf s h l = 1) := by show _ = _; unfold dirOf; rw [if_pos hh]
            have e7 := cell_of hp3 7
            have e8 := cell_of hp3 8
            simp only [List.getElem?_toArray, List.getElem?_cons_succ, List.getElem?_cons_zero] at e7 e8
            have fz7 := frozen_of hp3 7
            have fz8 := frozen_of hp3 8
            go_upto_region 25 with fail
            have hp4 := rset8 (rset7 hp3 (.int .i64 (ab + 1))) (.int .i64 0)
            have O4 := (O3.setCell (p := ⟨p, 7, none⟩) (.inl (by simp)) (.int .i64 (ab + 1))).setCell (p := ⟨p, 8, none⟩) (.inl (by simp)) (.int .i64 0)
            clear hp3 O3 e7 e8 fz7 fz8
            generalize (we.setCell ⟨p, 7, none⟩ (.int .i64 (ab + 1))).setCell ⟨p, 8, none⟩ (.int .i64 0) = wf at *
            have e7 := cell_of hp4 7
            have e4 := cell_of hp4 4
            simp only [List.getElem?_toArray, List.getElem?_cons_succ, List.getElem?_cons_zero] at e7 e4
            refine wp_region_reads mixed (by kernel_rfl) ?_
            repeat (refine wpStill_op rfl rfl (fun K hK => ?_); go_step; refine hK _ ?_; clear hK K)
            refine wpStill_nil ?_
            clear e7 e4
            have hp5 : wf.drew.heap[p]? = _ := hp4
            have O5 := O4.drew
            clear hp4 O4
            generalize wf.drew = wg at *
            by_cases hk : ab + 1 < k
            · have hd2 : decide (k ≤ ab + 1) = false := by simp; omega
              have hd3 : decide (k ≤ 0) = false := by simp; omega
              have e8 := cell_of hp5 8
              have e4 := cell_of hp5 4
              simp only [List.getElem?_toArray, List.getElem?_cons_succ, List.getElem?_cons_zero] at e8 e4
              go_upto_region 28 with fail
              refine wp_region_reads mixed (by kernel_rfl) ?_
              repeat (refine wpStill_op rfl rfl (fun K hK => ?_); go_step; refine hK _ ?_; clear hK K)
              refine wpStill_nil ?_
              clear e8 e4
              go_wp2_with fail
              go_ret2
              rw [← HG0.out, HSS.out, HD.out]
              refine ⟨by simp [rans, hk], T', ?_⟩
              have := HREST.out wg.drew s (ab + 1) 0 hp5 O5.drew
              simp only [rab, rbe, if_pos hk, if_true]
              exact ⟨by simpa using this.1, this.2, HT'.out⟩
            · have hd2 : decide (k ≤ ab + 1) = true := by simp; omega
              have fz7 := frozen_of hp5 7
              have e7 := cell_of hp5 7
              simp only [List.getElem?_toArray, List.getElem?_cons_succ, List.getElem?_cons_zero] at e7
              go_wp2_with fail
              go_ret2
              rw [← HG0.out, HSS.out, HD.out]
              refine ⟨by simp [rans, hk], T', ?_⟩
              have := HREST.out _ s 0 0 (rset7 hp5 (.int .i64 0)) (O5.setCell (.inl (by simp)) _)
              simp only [rab, rbe, if_neg (show ¬ (ab + 1 < k) by omega), if_true]
              exact ⟨by simpa using this.1, this.2, HT'.out⟩
          have hd : decide (h ≤ s) = false := by simpa using hh
          have e0 := cell_of hp3 0
          have e3 := cell_of hp3 3
          simp only [List.getElem?_toArray, List.getElem?_cons_succ, List.getElem?_cons_zero] at e0 e3
          go_upto_region 22 with fail
          refine wp_region_reads mixed (by kernel_rfl) ?_
          repeat (refine wpStill_op rfl rfl (fun K hK => ?_); go_step; refine hK _ ?_; clear hK K)
          refine wpStill_nil ?_
          clear e0 e3
          have hp4 : we.drew.heap[p]? = _ := hp3
          have O4 := O3.drew
          clear hp3 O3
          generalize we.drew = wf at *
          by_cases hl : s ≤ l
          · have hd1 : decide (s ≤ l) = true := by simpa using hl
            have HD : Hid (dirOf s h l = -1) := by show _ = _; unfold dirOf; rw [if_neg hh, if_pos hl]
            have e7 := cell_of hp4 7
            have e8 := cell_of hp4 8
            simp only [List.getElem?_toArray, List.getElem?_cons_succ, List.getElem?_cons_zero] at e7 e8
            have fz7 := frozen_of hp4 7
            have fz8 := frozen_of hp4 8
            go_upto_region 25 with fail
            have hp5 := rset7 (rset8 hp4 (.int .i64 (be + 1))) (.int .i64 0)
            have O5 := (O4.setCell (p := ⟨p, 8, none⟩) (.inl (by simp)) (.int .i64 (be + 1))).setCell (p := ⟨p, 7, none⟩) (.inl (by simp)) (.int .i64 0)
            clear hp4 O4 e7 e8 fz7 fz8
            generalize (wf.setCell ⟨p, 8, none⟩ (.int .i64 (be + 1))).setCell ⟨p, 7, none⟩ (.int .i64 0) = wg at *
            have e7 := cell_of hp5 7
            have e4 := cell_of hp5 4
            simp only [List.getElem?_toArray, List.getElem?_cons_succ, List.getElem?_cons_zero] at e7 e4
            refine wp_region_reads mixed (by kernel_rfl) ?_
            repeat (refine wpStill_op rfl rfl (fun K hK => ?_); go_step; refine hK _ ?_; clear hK K)
            refine wpStill_nil ?_
            clear e7 e4
            have hp6 : wg.drew.heap[p]? = _ := hp5
            have O6 := O5.drew
            clear hp5 O5
            generalize wg.drew = wh at *
            have hd3 : decide (k ≤ 0) = false := by simp; omega
            have e8 := cell_of hp6 8
            have e4 := cell_of hp6 4
            simp only [List.getElem?_toArray, List.getElem?_cons_succ, List.getElem?_cons_zero] at e8 e4
            go_upto_region 28 with fail
            refine wp_region_reads mixed (by kernel_rfl) ?_
            repeat (refine wpStill_op rfl rfl (fun K hK => ?_); go_step; refine hK _ ?_; clear hK K)
            refine wpStill_nil ?_
            clear e8 e4
            have hp7 : wh.drew.heap[p]? = _ := hp6
            have O7 := O6.drew
            clear hp6 O6
            generalize wh.drew = wi at *
            by_cases hk : be + 1 < k
            · have hd2 : decide (k ≤ be + 1) = false := by simp; omega
              go_wp2_with fail
              go_ret2
              rw [← HG0.out, HSS.out, HD.out]
              refine ⟨by simp [rans, hk], T', ?_⟩
              have := HREST.out _ s 0 (be + 1) hp7 O7
              simp only [rab, rbe, if_pos hk, if_true]
              exact ⟨by simpa using this.1, this.2, HT'.out⟩
            · have hd2 : decide (k ≤ be + 1) = true := by simp; omega
              have fz8 := frozen_of hp7 8
              have e8 := cell_of hp7 8
              simp only [List.getElem?_toArray, List.getElem?_cons_succ, List.getElem?_cons_zero] at e8
              go_wp2_with fail
              go_ret2
              rw [← HG0.out, HSS.out, HD.out]
              refine ⟨by simp [rans, hk], T', ?_⟩
              have := HREST.out _ s 0 0 (rset8 hp7 (.int .i64 0)) (O7.setCell (.inl (by simp)) _)
              simp only [rab, rbe, if_neg (show ¬ (be + 1 < k) by omega), if_true]
              exact ⟨by simpa using this.1, this.2, HT'.out⟩
          have hd1 : decide (s ≤ l) = false := by simpa using hl
          have HD : Hid (dirOf s h l = 0) := by show _ = _; unfold dirOf; rw [if_neg hh, if_neg hl]
          have e7 := cell_of hp4 7
          have e8 := cell_of hp4 8
          simp only [List.getElem?_toArray, List.getElem?_cons_succ, List.getElem?_cons_zero] at e7 e8
          have fz7 := frozen_of hp4 7
          have fz8 := frozen_of hp4 8
          go_upto_region 25 with fail
          have hp5 := rset8 (rset7 hp4 (.int .i64 0)) (.int .i64 0)
          have O5 := (O4.setCell (p := ⟨p, 7, none⟩) (.inl (by simp)) (.int .i64 0)).setCell (p := ⟨p, 8, none⟩) (.inl (by simp)) (.int .i64 0)
          clear hp4 O4 e7 e8 fz7 fz8
          generalize (wf.setCell ⟨p, 7, none⟩ (.int .i64 0)).setCell ⟨p, 8, none⟩ (.int .i64 0) = wg at *
          have e7 := cell_of hp5 7
          have e4 := cell_of hp5 4
          simp only [List.getElem?_toArray, List.getElem?_cons_succ, List.getElem?_cons_zero] at e7 e4
          refine wp_region_reads mixed (by kernel_rfl) ?_
          repeat (refine wpStill_op rfl rfl (fun K hK => ?_); go_step; refine hK _ ?_; clear hK K)
          refine wpStill_nil ?_
          clear e7 e4
          have hp6 : wg.drew.heap[p]? = _ := hp5
          have O6 := O5.drew
          clear hp5 O5
          generalize wg.drew = wh at *
          have hd3 : decide (k ≤ 0) = false := by simp; omega
          have e8 := cell_of hp6 8
          have e4 := cell_of hp6 4
          simp only [List.getElem?_toArray, List.getElem?_cons_succ, List.getElem?_cons_zero] at e8 e4
          go_upto_region 28 with fail
          refine wp_region_reads mixed (by kernel_rfl) ?_
          repeat (refine wpStill_op rfl rfl (fun K hK => ?_); go_step; refine hK _ ?_; clear hK K)
          refine wpStill_nil ?_
          clear e8 e4
          go_wp2_with fail
          go_ret2
          rw [← HG0.out, HSS.out, HD.out]
          refine ⟨by simp [rans], T', ?_⟩
          have := HREST.out wh.drew s 0 0 hp6 O6.drew
          simp only [rab, rbe]
          exact ⟨by simpa using this.1, this.2, HT'.out⟩
end Go.Proofs.Ytpgjlkbjejlinaa

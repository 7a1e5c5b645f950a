/- Contracts of chapter 17's functions: the program's quality.New, Add, Good. -/
import Derived.Test.YtkmoakbebpibdaaRows
import Derived.Test.YtkmoakbebpibdaaBase
import Derived.Test.YtkmoakbebpibdaaRegion
import Derived.Test.YtkmoakbebpibdaaPlain
namespace Go.Proofs.Ytkmoakbebpibdaa
open Go.RowKit
open Plain

theorem mixed : Try.prog.follows .mixedOrders = true := by kernel_rfl

/-- a ring of reports in memory. -/
def flat (R : List (Int × Int)) : Array Value := (R.flatMap fun x => [Value.int .i64 x.1, Value.int .i64 x.2]).toArray

theorem flat_size (R : List (Int × Int)) : (flat R).size = R.length * 2 := by
  unfold flat
  induction R with
  | nil => rfl
  | cons x R ih => simp at ih ⊢; omega
theorem flat_get (R : List (Int × Int)) (k : Nat) (hk : k < R.length) : (flat R)[k * 2]? = some (.int .i64 R[k].1) ∧ (flat R)[k * 2 + 1]? = some (.int .i64 R[k].2) := by
  unfold flat
  induction R generalizing k with
  | nil => simp at hk
  | cons x R ih =>
    cases k with
    | zero => simp
    | succ k =>
      have := ih k (by simpa using hk)
      have e : (k + 1) * 2 = k * 2 + 1 + 1 := by omega
      simp [e] at this ⊢
      exact this
theorem flat_set (R : List (Int × Int)) (k : Nat) (hk : k < R.length) (s x : Int) :
    ((flat R).setIfInBounds (k * 2) (.int .i64 s)).setIfInBounds (k * 2 + 1) (.int .i64 x) = flat (R.set k (s, x)) := by
  unfold flat
  induction R generalizing k with
  | nil => simp at hk
  | cons y R ih =>
    cases k with
    | zero => simp
    | succ k =>
      have := ih k (by simpa using hk)
      have e : (k + 1) * 2 = k * 2 + 1 + 1 := by omega
      simp [e] at this ⊢
      exact this
theorem flat_zero (n : Nat) : flat (List.replicate n (0, 0)) = Array.replicate (n * 2) (.int .i64 0) := by
  unfold flat
  apply Array.ext'
  rw [Array.toList_replicate]
  induction n with
  | zero => rfl
  | succ n ih => rw [List.replicate_succ, List.flatMap_cons, show (n + 1) * 2 = n * 2 + 1 + 1 by omega, List.replicate_succ, List.replicate_succ]; simp at ih ⊢; exact ih

/-- what a Quality of the program is in memory. -/
structure QRep (w : World) (p r : Nat) (g o : Int) (n k : Nat) (R : List (Int × Int)) (ss sg : Int) : Prop where
  ne : p ≠ r
  obj : w.heap[p]? = some (.cells #[.int .i64 g, .int .i64 o, .slice (some ⟨r, 0, none⟩) n n, .int .i64 k, .int .i64 ss, .int .i64 sg] 43 (0, 0))
  ring : w.heap[r]? = some (.cells (flat R) 41 (0, 0))
  len : R.length = n
  at_ : k < n

theorem QRep.only {S : List Nat} {w w' : World} {p r : Nat} {g o : Int} {n k : Nat} {R : List (Int × Int)} {ss sg : Int} (h : QRep w p r g o n k R ss sg) (ho : Only S w w') (hp : p ∉ S) (hr : r ∉ S) : QRep w' p r g o n k R ss sg :=
  ⟨h.ne, ho.at h.obj hp, ho.at h.ring hr, h.len, h.at_⟩

theorem madeRow (n : Nat) : madeCells #[Value.int .i64 0, Value.int .i64 0] (n * 2) = flat (List.replicate n (0, 0)) := by
  rw [flat_zero]
  apply Array.ext
  · simp [madeCells]
  · intro i h1 h2
    simp [madeCells]
    have : i % 2 = 0 ∨ i % 2 = 1 := by omega
    rcases this with e | e <;> simp [e]

theorem info41 : (Try.prog.info? 41).map (fun i => (i.zero, i.size, i.bytes)) = some (some (.agg #[.int .i64 0, .int .i64 0]), 2, 16) := by kernel_rfl

theorem made (n : Nat) (hn : n ≤ 32) (w : World) : (Instr.makeSlice 39 (.int .i64 n) (.int .i64 n)).run Try.prog w =
    .ok (.slice (some ⟨w.heap.size, 0, none⟩) n n) (w.alloc (.cells (flat (List.replicate n (0, 0))) 41)) := by
  obtain ⟨i, hi, hz, hs, hb⟩ := info_parts info41
  have := run_make (P := Try.prog) w 39 41 i _ Try.underlying39 hi hz .i64 .i64 (n : Int) (n : Int) (by omega) (by omega) (by rw [hb]; omega) (by omega)
  rw [this, hs]
  simp only [Int.toNat_natCast]
  rw [← madeRow]
  rfl

set_option maxHeartbeats 400000 in
theorem new_good (n : Nat) (g o : Int) (w : World) (h1 : 1 ≤ n) (h2 : n ≤ 32) (h3 : 1 ≤ o) (h4 : o ≤ 1000) (h5 : 0 ≤ g) (h6 : g ≤ o) :
    Calls Try.prog 9 #[.int .i64 n, .int .i64 g, .int .i64 o] w fun e w' => e = .returned (.tuple #[.pointer (some ⟨w.heap.size + 1, 0, none⟩), .int .i64 0]) ∧
      w' = (w.alloc (.cells (flat (List.replicate n (0, 0))) 41)).alloc (.cells #[.int .i64 g, .int .i64 o, .slice (some ⟨w.heap.size, 0, none⟩) n n, .int .i64 0, .int .i64 0, .int .i64 0] 43) := by
  have hmk := made n h2
  generalize flat (List.replicate n (0, 0)) = fl at *
  have g1 : decide ((n : Int) < 1) = false := by simp; omega
  have g2 : decide (32 < (n : Int)) = false := by simp; omega
  have g3 : decide (o < 1) = false := by simp; omega
  have g4 : decide (1000 < o) = false := by simp; omega
  have g5 : decide (g < 0) = false := by simp; omega
  have g6 : decide (o < g) = false := by simp; omega
  go_enter Try.func9, Try.ntmps9
  go_wp2
  go_ret2
  exact ⟨rfl, rfl⟩

set_option maxHeartbeats 400000 in
theorem new_bad (n g o : Int) (w : World) (h : n < 1 ∨ 32 < n ∨ o < 1 ∨ 1000 < o ∨ g < 0 ∨ o < g) :
    Calls Try.prog 9 #[.int .i64 n, .int .i64 g, .int .i64 o] w fun e w' => e = .returned (.tuple #[.pointer none, .int .i64 1700]) ∧ w = w' := by
  by_cases h1 : n < 1
  · go_enter Try.func9, Try.ntmps9
    go_wp2
    go_ret2
    exact ⟨rfl, rfl⟩
  by_cases h2 : 32 < n
  · go_enter Try.func9, Try.ntmps9
    go_wp2
    go_ret2
    exact ⟨rfl, rfl⟩
  by_cases h3 : o < 1
  · go_enter Try.func9, Try.ntmps9
    go_wp2
    go_ret2
    exact ⟨rfl, rfl⟩
  by_cases h4 : 1000 < o
  · go_enter Try.func9, Try.ntmps9
    go_wp2
    go_ret2
    exact ⟨rfl, rfl⟩
  by_cases h5 : g < 0
  · go_enter Try.func9, Try.ntmps9
    go_wp2
    go_ret2
    exact ⟨rfl, rfl⟩
  have h6 : o < g := by omega
  clear h
  go_enter Try.func9, Try.ntmps9
  go_wp2
  go_ret2
  exact ⟨rfl, rfl⟩

set_option maxHeartbeats 1000000 in
theorem add_walk (p r n k : Nat) (g o s x ss sg os og : Int) (w : World) 
    (c2 : w.cell? ⟨p, 2, none⟩ = some (.slice (some ⟨r, 0, none⟩) n n))
    (c3 : w.cell? ⟨p, 3, none⟩ = some (.int .i64 k)) (c4 : w.cell? ⟨p, 4, none⟩ = some (.int .i64 ss)) (c5 : w.cell? ⟨p, 5, none⟩ = some (.int .i64 sg))
    (d0 : w.cell? ⟨r, k * 2, none⟩ = some (.int .i64 os)) (d1 : w.cell? ⟨r, k * 2 + 1, none⟩ = some (.int .i64 og)) (hpr : p ≠ r)
    (f3 : w.frozen? ⟨p, 3, none⟩ = false) (f4 : w.frozen? ⟨p, 4, none⟩ = false) (f5 : w.frozen? ⟨p, 5, none⟩ = false) (f6 : w.frozen? ⟨r, k * 2, none⟩ = false) (f7 : w.frozen? ⟨r, k * 2 + 1, none⟩ = false)
    (hn : n ≤ 32) (hk : k < n) (hs : 0 ≤ s) (hs' : s ≤ 2147483647) (hx : 0 ≤ x) (hx' : x ≤ s)
    (b1 : 0 ≤ ss) (b2 : ss ≤ 68719476736) (b3 : 0 ≤ sg) (b4 : sg ≤ 68719476736) (b5 : 0 ≤ os) (b6 : os ≤ 2147483647) (b7 : 0 ≤ og) (b8 : og ≤ 2147483647) :
    Calls Try.prog 13 #[.pointer (some ⟨p, 0, none⟩), .int .i64 s, .int .i64 x] w fun e w' => e = .returned (.int .i64 0) ∧
      w' = (((((w.setCell ⟨p, 4, none⟩ (.int .i64 (ss + (s - os)))).setCell ⟨p, 5, none⟩ (.int .i64 (sg + (x - og)))).setCell ⟨r, k * 2, none⟩ (.int .i64 s)).setCell ⟨r, k * 2 + 1, none⟩ (.int .i64 x)).setCell ⟨p, 3, none⟩ (.int .i64 ((k + 1) % n))).drewN 4 := by
  have g1 : decide (s < 0) = false := by simp; omega
  have g2 : decide (2147483647 < s) = false := by simp; omega
  have g3 : decide (x < 0) = false := by simp; omega
  have g4 : decide (s < x) = false := by simp; omega
  go_enter Try.func13, Try.ntmps13
  go_wp2
  clear g1 g2 g3 g4
  refine wp_region_reads mixed (by kernel_rfl) ?_
  repeat (refine wpStill_op rfl rfl (fun K hK => ?_); go_step; refine hK _ ?_; clear hK K)
  refine wpStill_nil ?_
  go_wp2
  refine wp_region_tail 15 mixed (by kernel_rfl) ?_
  simp only [List.take_succ_cons, List.take_zero, List.drop_succ_cons, List.drop_zero]
  repeat (refine wpStill_op rfl rfl (fun K hK => ?_); go_step; refine hK _ ?_; clear hK K)
  refine wpStill_nil ?_
  go_wp2
  refine wp_region_tail 15 mixed (by kernel_rfl) ?_
  simp only [List.take_succ_cons, List.take_zero, List.drop_succ_cons, List.drop_zero]
  repeat (refine wpStill_op rfl rfl (fun K hK => ?_); go_step; refine hK _ ?_; clear hK K)
  refine wpStill_nil ?_
  go_wp2
  refine wp_region_tail 14 mixed (by kernel_rfl) ?_
  simp only [List.take_succ_cons, List.take_zero, List.drop_succ_cons, List.drop_zero]
  repeat (refine wpStill_op rfl rfl (fun K hK => ?_); go_step; refine hK _ ?_; clear hK K)
  refine wpStill_nil ?_
  go_wp2
  go_ret
  exact ⟨rfl, rfl⟩

set_option maxHeartbeats 400000 in
theorem good_walk (p r n : Nat) (g o k ss sg : Int) (w : World) 
    (c0 : w.cell? ⟨p, 0, none⟩ = some (.int .i64 g)) (c1 : w.cell? ⟨p, 1, none⟩ = some (.int .i64 o))
    (c4 : w.cell? ⟨p, 4, none⟩ = some (.int .i64 ss)) (c5 : w.cell? ⟨p, 5, none⟩ = some (.int .i64 sg))
    (h1 : 0 ≤ g) (h2 : g ≤ 1000) (h3 : 0 ≤ o) (h4 : o ≤ 1000)
    (b1 : 0 ≤ ss) (b2 : ss ≤ 68719476736) (b3 : 0 ≤ sg) (b4 : sg ≤ 68719476736) :
    Calls Try.prog 15 #[.pointer (some ⟨p, 0, none⟩)] w fun e w' => e = .returned (.bool (decide (ss * g ≤ sg * o))) ∧ w.drew = w' := by
  have m1 : 0 ≤ sg * o := Int.mul_nonneg b3 h3
  have m2 : sg * o ≤ 68719476736 * 1000 := Int.mul_le_mul b4 h4 h3 (by omega)
  have m3 : 0 ≤ ss * g := Int.mul_nonneg b1 h1
  have m4 : ss * g ≤ 68719476736 * 1000 := Int.mul_le_mul b2 h2 h1 (by omega)
  go_enter Try.func15, Try.ntmps15
  go_wp2
  refine wp_region_reads mixed (by kernel_rfl) ?_
  repeat (refine wpStill_op rfl rfl (fun K hK => ?_); go_step; refine hK _ ?_; clear hK K)
  refine wpStill_nil ?_
  go_wp2
  go_ret
  exact ⟨rfl, rfl⟩

end Go.Proofs.Ytkmoakbebpibdaa

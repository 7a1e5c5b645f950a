/- The contract of (*Meter).Tick; a meter as its window and its run. -/
import Derived.Test.YtpgjlkbjejlinaaTurn
namespace Go.Proofs.Ytpgjlkbjejlinaa
open Go.RowKit
open Plain

/-- a meter of the program: its window of ticks, oldest first; its run; its share. -/
structure MA (w : World) (p rr : Nat) (h l k : Int) (R : Run) (W : List (Int × Int)) (sh : Int) : Prop where
  ex : ∃ (j : Nat) (G : List (Int × Int)), w.heap[p]? = some (.cells #[.int .i64 R.way, .int .i64 R.long, .int .i64 h, .int .i64 l, .int .i64 k, .slice (some ⟨rr, 0, none⟩) W.length W.length, .int .i64 (j : Int), .int .i64 (s1 W), .int .i64 (s2 W), .int .i64 sh] 53 (0, 0)) ∧ w.heap[rr]? = some (.cells (flat G) 51 (0, 0)) ∧ rot G j = W ∧ j < W.length
  ne : p ≠ rr
  ok : ∀ x ∈ W, Ok x
  pos : 1 ≤ W.length
  len : W.length ≤ 32
  k1 : 1 ≤ k
  k2 : k ≤ 4096
  r1 : 0 ≤ R.long
  r2 : R.long < k

theorem MA.only {S : List Nat} {w w' : World} {p rr : Nat} {h l k : Int} {R : Run} {W : List (Int × Int)} {sh : Int} (m : MA w p rr h l k R W sh) (ho : Only S w w') (hp : p ∉ S) (hr : rr ∉ S) : MA w' p rr h l k R W sh := by
  obtain ⟨j, G, h1, h2, h3⟩ := m.ex
  exact ⟨⟨j, G, ho.at h1 hp, ho.at h2 hr, h3⟩, m.ne, m.ok, m.pos, m.len, m.k1, m.k2, m.r1, m.r2⟩
theorem MA.lt {w : World} {p rr : Nat} {h l k : Int} {R : Run} {W : List (Int × Int)} {sh : Int} (m : MA w p rr h l k R W sh) : p < w.heap.size ∧ rr < w.heap.size := by
  obtain ⟨j, G, h1, h2, _⟩ := m.ex
  exact ⟨lt_of_block h1, lt_of_block h2⟩

theorem turn_bd (R : Run) (d k : Int) (h1 : 1 ≤ k) (r1 : 0 ≤ R.long) (r2 : R.long < k) : 0 ≤ (turn R d k).1.long ∧ (turn R d k).1.long < k := by
  unfold turn
  by_cases hd : d = 0
  · rw [if_pos hd]
    show 0 ≤ (if R.way = 0 then R.long else 0) ∧ (if R.way = 0 then R.long else 0) < k
    split <;> omega
  · rw [if_neg hd]
    generalize hq : (if R.way = d then R.long else 0) = q
    have : 0 ≤ q ∧ q < k := by rw [← hq]; split <;> omega
    by_cases hl : q + 1 < k
    · rw [if_pos hl]
      show 0 ≤ q + 1 ∧ q + 1 < k
      omega
    · rw [if_neg hl]
      show (0 : Int) ≤ 0 ∧ (0 : Int) < k
      omega

theorem push_length (W : List (Int × Int)) (x : Int × Int) (h : 1 ≤ W.length) : (push W x).length = W.length := by unfold push; simp; omega

def dirF (W : List (Int × Int)) (h l : Int) : Int := dirOf (shareOf W) h l

set_option maxRecDepth 100000 in
set_option maxHeartbeats 4000000 in
theorem mtick (p rr : Nat) (h l k b r : Int) (R : Run) (W : List (Int × Int)) (sh : Int) (w : World) (m : MA w p rr h l k R W sh) (hx : Ok (b, r)) :
    Calls Try.prog 14 #[.pointer (some ⟨p, 0, none⟩), .int .i64 b, .int .i64 r] w fun e w' => e = .returned (.tuple #[.int .i64 (turn R (dirF (push W (b, r)) h l) k).2, .int .i64 0]) ∧
      MA w' p rr h l k (turn R (dirF (push W (b, r)) h l) k).1 (push W (b, r)) (shareOf (push W (b, r))) ∧ Only [p, rr] w w' := by
  obtain ⟨j, G, hO, hR, hrot, hj⟩ := m.ex
  have hGl : G.length = W.length := by rw [← hrot, rot_length]
  have hjG : j < G.length := by omega
  have hr1 := s1_rot G j
  have hr2 := s2_rot G j
  rw [hrot] at hr1 hr2
  have hokG : ∀ x ∈ G, Ok x := fun x hx => m.ok x (by rw [← hrot, mem_rot]; exact hx)
  have hrs := rot_set G j hjG (b, r)
  rw [hGl, hrot] at hrs
  have hp1 : s1 (push W (b, r)) = s1 (G.set j (b, r)) := by unfold push; rw [← hrs, s1_rot]
  have hp2 : s2 (push W (b, r)) = s2 (G.set j (b, r)) := by unfold push; rw [← hrs, s2_rot]
  have hsh : shareOf (push W (b, r)) = shareOf (G.set j (b, r)) := by unfold shareOf; rw [hp1, hp2]
  have hpl := push_length W (b, r) m.pos
  have hokp : ∀ x ∈ push W (b, r), Ok x := fun x hx' => by
    rcases List.mem_append.1 hx' with h1 | h1
    · exact m.ok x (List.mem_of_mem_tail h1)
    · rw [List.mem_singleton.1 h1]; exact hx
  have hA := add_walk p rr W.length j (.int .i64 R.way) (.int .i64 R.long) (.int .i64 h) (.int .i64 l) (.int .i64 k) (.int .i64 sh) b r (s1 W) (s2 W) G
  have hne := m.ne
  have hlen := m.len
  -- what the meter is behind add, then behind turn
  have FIN : Hid (∀ w1 w2, w1.heap[rr]? = some (.cells (flat (G.set j (b, r))) 51 (0, 0)) → Only [p, rr] w w1 → Only [p] w1 w2 →
      w2.heap[p]? = some (.cells #[.int .i64 (turn R (dirF (push W (b, r)) h l) k).1.way, .int .i64 (turn R (dirF (push W (b, r)) h l) k).1.long, .int .i64 h, .int .i64 l, .int .i64 k, .slice (some ⟨rr, 0, none⟩) W.length W.length, .int .i64 (((j + 1) % W.length : Nat) : Int), .int .i64 (s1 (G.set j (b, r))), .int .i64 (s2 (G.set j (b, r))), .int .i64 (shareOf (G.set j (b, r)))] 53 (0, 0)) →
      MA w2 p rr h l k (turn R (dirF (push W (b, r)) h l) k).1 (push W (b, r)) (shareOf (push W (b, r))) ∧ Only [p, rr] w w2) := by
    intro w1 w2 q1 q2 q3 q4
    obtain ⟨t1, t2⟩ := turn_bd R (dirF (push W (b, r)) h l) k m.k1 m.r1 m.r2
    have O := q2.trans (q3.mono (fun x hx => by simp at hx ⊢; exact .inl hx))
    refine ⟨⟨⟨(j + 1) % W.length, G.set j (b, r), ?_, q3.at q1 (by simpa using Ne.symm hne), hrs, ?_⟩, hne, hokp, by omega, by omega, m.k1, m.k2, t1, t2⟩, O⟩
    · rw [hpl, hp1, hp2, hsh]; exact q4
    · rw [hpl]; exact Nat.mod_lt _ (by omega)
  unfold dirF at FIN ⊢
  rw [hsh] at FIN ⊢
  have hb := shr_bd (s1 (G.set j (b, r))) (s2 (G.set j (b, r))) (by rw [← hp1]; exact (s_bd _ hokp).1)
  obtain ⟨x1, x2, x3, x4⟩ := hx
  simp only at x1 x2 x3 x4
  have hA' := hA w hO hR hne hGl hj hlen hokG ⟨x1, x2, x3, x4⟩ hr1 hr2
  have HA := Lib.hid hA'
  have mr1 := m.r1
  have mr2 := m.r2
  have mk2 := m.k2
  clear hA hA' hr1 hr2 hrs hp1 hp2 hsh hokp hpl hokG m hO hR hrot hGl
  change 0 ≤ shareOf (G.set j (b, r)) ∧ shareOf (G.set j (b, r)) ≤ 1000 at hb
  generalize shareOf (G.set j (b, r)) = s at *
  generalize s1 (G.set j (b, r)) = sb at *
  generalize s2 (G.set j (b, r)) = sr at *
  obtain ⟨hb1, hb2⟩ := hb
  obtain ⟨way, long⟩ := R
  simp only at mr1 mr2
  have d1 : decide (b < 0) = false := by simp; omega
  have d2 : decide (2147483647 < b) = false := by simp; omega
  have d3 : decide (r < 0) = false := by simp; omega
  have d4 : decide (2147483647 < r) = false := by simp; omega
  go_enter Try.func14, Try.ntmps14
  go_wp2_with fail
  refine HA.out.mono ?_
  rintro e w1 ⟨rfl, hO1, hR1, O1⟩
  clear HA d1 d2 d3 d4
  have c2 := cell_of hO1 2
  have c3 := cell_of hO1 3
  have c4 := cell_of hO1 4
  have c9 := cell_of hO1 9
  simp only [List.getElem?_toArray, List.getElem?_cons_succ, List.getElem?_cons_zero] at c2 c3 c4 c9
  by_cases hs : h ≤ s
  · have dd : decide (h ≤ s) = true := by simpa using hs
    have HD : Hid (dirOf s h l = 1) := by show dirOf s h l = _; unfold dirOf; rw [if_pos hs]
    rw [HD.out] at FIN
    have HQ : Hid (∀ (e : Ending) (w2 : World), (e = .returned (.tuple #[.int .i64 (turn ⟨way, long⟩ 1 k).2, .int .i64 0]) ∧ MA w2 p rr h l k (turn ⟨way, long⟩ 1 k).1 (push W (b, r)) s ∧ Only [p, rr] w w2) → (e = .returned (.tuple #[.int .i64 (turn ⟨way, long⟩ (dirOf s h l) k).2, .int .i64 0]) ∧ MA w2 p rr h l k (turn ⟨way, long⟩ (dirOf s h l) k).1 (push W (b, r)) s ∧ Only [p, rr] w w2)) := fun e w2 hh => by rw [HD.out]; exact hh
    clear HD
    go_wp2_with fail
    refine wp_region_reads mixed (by kernel_rfl) ?_
    repeat (refine wpStill_op rfl rfl (fun K hK => ?_); go_step; refine hK _ ?_; clear hK K)
    refine wpStill_nil ?_
    go_wp2_with fail
    refine wp_region_free 7 [] [7, 8, 9] mixed (by kernel_rfl) (fun d v c a w h => by cases d <;> exact h) ?_
    simp only [Region.heads, List.range, List.range.loop, List.filter_cons, List.filter_nil, List.contains_cons, List.contains_nil, Nat.reduceBEq, Bool.or_false, Bool.not_true, Bool.not_false, Bool.false_eq_true, if_false, if_true, List.cons_append, List.nil_append, List.filterMap_cons, List.filterMap_nil, List.getElem?_cons_succ, List.getElem?_cons_zero, BEq.rfl]
    repeat (refine wpStill_op rfl rfl (fun K hK => ?_); go_step; refine hK _ ?_; clear hK K)
    refine wpStill_nil ?_
    go_wp2_with fail
    have hO2 : w1.drew.drew.heap[p]? = _ := hO1
    refine (turn_walk p (1) k way long _ _ _ _ _ _ _ _ w1.drew.drew hO2 mr1 (by omega)).mono ?_
    rintro e w2 ⟨rfl, O2, hO3⟩
    obtain ⟨m1, m2⟩ := FIN.out w1 w2 hR1 O1 (Only.trans (by repeat (first | exact Only.refl _ _ | refine Only.drew ?_)) O2) hO3
    clear hO2 hO3 O2 c2 c3 c4 c9
    go_wp2
    go_ret2
    exact HQ.out _ _ ⟨rfl, m1, m2⟩
  have hs' : decide (h ≤ s) = false := by simpa using hs
  by_cases hl : s ≤ l
  · have dd : decide (s ≤ l) = true := by simpa using hl
    have HD : Hid (dirOf s h l = (-1)) := by show dirOf s h l = _; unfold dirOf; rw [if_neg hs, if_pos hl]
    rw [HD.out] at FIN
    have HQ : Hid (∀ (e : Ending) (w2 : World), (e = .returned (.tuple #[.int .i64 (turn ⟨way, long⟩ (-1) k).2, .int .i64 0]) ∧ MA w2 p rr h l k (turn ⟨way, long⟩ (-1) k).1 (push W (b, r)) s ∧ Only [p, rr] w w2) → (e = .returned (.tuple #[.int .i64 (turn ⟨way, long⟩ (dirOf s h l) k).2, .int .i64 0]) ∧ MA w2 p rr h l k (turn ⟨way, long⟩ (dirOf s h l) k).1 (push W (b, r)) s ∧ Only [p, rr] w w2)) := fun e w2 hh => by rw [HD.out]; exact hh
    clear HD
    go_wp2_with fail
    refine wp_region_reads mixed (by kernel_rfl) ?_
    repeat (refine wpStill_op rfl rfl (fun K hK => ?_); go_step; refine hK _ ?_; clear hK K)
    refine wpStill_nil ?_
    go_wp2_with fail
    refine wp_region_reads mixed (by kernel_rfl) ?_
    repeat (refine wpStill_op rfl rfl (fun K hK => ?_); go_step; refine hK _ ?_; clear hK K)
    refine wpStill_nil ?_
    go_wp2_with fail
    refine wp_region_free 7 [] [7, 8, 9] mixed (by kernel_rfl) (fun d v c a w h => by cases d <;> exact h) ?_
    simp only [Region.heads, List.range, List.range.loop, List.filter_cons, List.filter_nil, List.contains_cons, List.contains_nil, Nat.reduceBEq, Bool.or_false, Bool.not_true, Bool.not_false, Bool.false_eq_true, if_false, if_true, List.cons_append, List.nil_append, List.filterMap_cons, List.filterMap_nil, List.getElem?_cons_succ, List.getElem?_cons_zero, BEq.rfl]
    repeat (refine wpStill_op rfl rfl (fun K hK => ?_); go_step; refine hK _ ?_; clear hK K)
    refine wpStill_nil ?_
    go_wp2_with fail
    have hO2 : w1.drew.drew.drew.heap[p]? = _ := hO1
    refine (turn_walk p (-1) k way long _ _ _ _ _ _ _ _ w1.drew.drew.drew hO2 mr1 (by omega)).mono ?_
    rintro e w2 ⟨rfl, O2, hO3⟩
    obtain ⟨m1, m2⟩ := FIN.out w1 w2 hR1 O1 (Only.trans (by repeat (first | exact Only.refl _ _ | refine Only.drew ?_)) O2) hO3
    clear hO2 hO3 O2 c2 c3 c4 c9
    go_wp2
    go_ret2
    exact HQ.out _ _ ⟨rfl, m1, m2⟩
  · have dd : decide (s ≤ l) = false := by simpa using hl
    have HD : Hid (dirOf s h l = 0) := by show dirOf s h l = _; unfold dirOf; rw [if_neg hs, if_neg hl]
    rw [HD.out] at FIN
    have HQ : Hid (∀ (e : Ending) (w2 : World), (e = .returned (.tuple #[.int .i64 (turn ⟨way, long⟩ 0 k).2, .int .i64 0]) ∧ MA w2 p rr h l k (turn ⟨way, long⟩ 0 k).1 (push W (b, r)) s ∧ Only [p, rr] w w2) → (e = .returned (.tuple #[.int .i64 (turn ⟨way, long⟩ (dirOf s h l) k).2, .int .i64 0]) ∧ MA w2 p rr h l k (turn ⟨way, long⟩ (dirOf s h l) k).1 (push W (b, r)) s ∧ Only [p, rr] w w2)) := fun e w2 hh => by rw [HD.out]; exact hh
    clear HD
    go_wp2_with fail
    refine wp_region_reads mixed (by kernel_rfl) ?_
    repeat (refine wpStill_op rfl rfl (fun K hK => ?_); go_step; refine hK _ ?_; clear hK K)
    refine wpStill_nil ?_
    go_wp2_with fail
    refine wp_region_reads mixed (by kernel_rfl) ?_
    repeat (refine wpStill_op rfl rfl (fun K hK => ?_); go_step; refine hK _ ?_; clear hK K)
    refine wpStill_nil ?_
    go_wp2_with fail
    refine wp_region_free 7 [] [7, 8, 9] mixed (by kernel_rfl) (fun d v c a w h => by cases d <;> exact h) ?_
    simp only [Region.heads, List.range, List.range.loop, List.filter_cons, List.filter_nil, List.contains_cons, List.contains_nil, Nat.reduceBEq, Bool.or_false, Bool.not_true, Bool.not_false, Bool.false_eq_true, if_false, if_true, List.cons_append, List.nil_append, List.filterMap_cons, List.filterMap_nil, List.getElem?_cons_succ, List.getElem?_cons_zero, BEq.rfl]
    repeat (refine wpStill_op rfl rfl (fun K hK => ?_); go_step; refine hK _ ?_; clear hK K)
    refine wpStill_nil ?_
    go_wp2_with fail
    have hO2 : w1.drew.drew.drew.heap[p]? = _ := hO1
    refine (turn_walk p (0) k way long _ _ _ _ _ _ _ _ w1.drew.drew.drew hO2 mr1 (by omega)).mono ?_
    rintro e w2 ⟨rfl, O2, hO3⟩
    obtain ⟨m1, m2⟩ := FIN.out w1 w2 hR1 O1 (Only.trans (by repeat (first | exact Only.refl _ _ | refine Only.drew ?_)) O2) hO3
    clear hO2 hO3 O2 c2 c3 c4 c9
    go_wp2
    go_ret2
    exact HQ.out _ _ ⟨rfl, m1, m2⟩
end Go.Proofs.Ytpgjlkbjejlinaa

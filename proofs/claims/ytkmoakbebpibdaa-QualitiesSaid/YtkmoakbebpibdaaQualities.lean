/- Proved here: withylaw17.Qualities returns true for every input and leaves its arguments as they were (the given statement Rows.QualitiesSaid). Conditions: none. -/
import Derived.Test.YtkmoakbebpibdaaRows
import Derived.Test.YtkmoakbebpibdaaCon
import Derived.Test.YtkmoakbebpibdaaMask
import Derived.Test.YtkmoakbebpibdaaBase2
import Derived.Test.YtkmoakbebpibdaaRegion2
import Derived.WalkKit
import Derived.StillTactics
import Derived.Deep.Cut
import Derived.ProofKit
import Derived.OpenShut
import Derived.ShutString
import Derived.ChangeOld
import Derived.Below
namespace Go.Proofs.Ytkmoakbebpibdaa.qualities
open Go.ChangeShapes Go.WideShapes Go.ChangeAt Go.RowKit
open Plain
open Go.ChangeMaps (open_string shut_string)
set_option linter.unusedVariables false

theorem own : ownKnob Try.prog.godebug = none := by kernel_rfl
theorem laidOut : laidOutB Try.prog = true := by kernel_rfl

/-- WHAT THE WALK IS TOLD OF A SLICE OF INTEGERS THAT CAME IN: it is nil; or it leads to a row of 'cap' cells, the numbers 'zs' (the first 'len' are its elements, the rest its spare room), each fitting its kind. -/
def IsRow (k : IntKind) (w : World) (a : Option Addr) (len cap : Nat) (zs : List Int) : Prop :=
  (a = none ∧ len = 0 ∧ cap = 0 ∧ zs = []) ∨
  ∃ x, a = some x ∧ len ≤ cap ∧ cap ≤ maxLen ∧ zs.length = cap ∧ (∀ i, i < zs.length → w.cell? (x.add i) = some (.int k (zs.getD i 0))) ∧ ∀ n ∈ zs, (Lit.int k n).wf = true

/-- an element of a row that came in. -/
theorem row_at {w : World} {a : Option Addr} {len cap : Nat} {zs : List Int} (h : IsRow .i64 w a len cap zs) (i : Nat) (hi : i < len) :
    ∃ b off, a = some ⟨b, off, none⟩ ∧ b < w.heap.size ∧ w.cell? ⟨b, off + i, none⟩ = some (.int .i64 (zs.getD i 0)) ∧ -9223372036854775808 ≤ zs.getD i 0 ∧ zs.getD i 0 ≤ 9223372036854775807 := by
  rcases h with ⟨_, rfl, _, _⟩ | ⟨x, rfl, hl, hm, hz, hcell, hwz⟩
  · omega
  · have hc := hcell i (by omega)
    obtain ⟨b, off, spot⟩ := x
    have hc0 := hcell 0 (by omega)
    have hspot : spot = none := by simpa [Addr.add] using World.cell?_spot hc0
    subst hspot
    rw [Addr.add_lit] at hc
    have hb := bounds_i64 (hwz (zs.getD i 0) (by rw [show zs.getD i 0 = zs[i]'(by omega) from by simp [List.getD, show i < zs.length by omega]]; exact List.getElem_mem _))
    exact ⟨b, off, rfl, World.block_lt_of_cell? w _ hc, hc, hb.1, hb.2⟩
theorem row_len {w : World} {a : Option Addr} {len cap : Nat} {zs : List Int} (h : IsRow .i64 w a len cap zs) : len ≤ 9223372036854775807 := by
  rcases h with ⟨_, rfl, _, _⟩ | ⟨x, rfl, hl, hm, _⟩
  · omega
  · unfold maxLen at hm; omega

/-- the reference's list is the window without the zeros ahead of it. -/
def Rel (n : Nat) (W H : List (Int × Int)) : Prop := H.length ≤ n ∧ W = List.replicate (n - H.length) (0, 0) ++ H
theorem rel_next (n : Nat) (W H : List (Int × Int)) (x : Int × Int) (hn : 1 ≤ n) (h : Rel n W H) : Rel n (W.tail ++ [x]) (nextH n H x) := by
  obtain ⟨h1, rfl⟩ := h
  unfold nextH
  by_cases hl : n < H.length + 1
  · have e : n - H.length = 0 := by omega
    rw [if_pos hl, e]
    cases H with
    | nil => simp at hl; omega
    | cons y H => simp at hl h1 ⊢; exact ⟨by simp; omega, by simp; omega⟩
  · rw [if_neg hl]
    obtain ⟨m, hm⟩ : ∃ m, n - H.length = m + 1 := ⟨n - H.length - 1, by omega⟩
    rw [hm, List.replicate_succ]
    refine ⟨by simp; omega, ?_⟩
    have : n - (H ++ [x]).length = m := by simp; omega
    rw [this]
    simp
theorem rel_sums (n : Nat) (W H : List (Int × Int)) (h : Rel n W H) : s1 W = s1 H ∧ s2 W = s2 H := by
  obtain ⟨h1, rfl⟩ := h
  rw [s1_append, s2_append, s1_zero, s2_zero]
  omega
theorem rel_gd (n : Nat) (W H : List (Int × Int)) (g o : Int) (h : Rel n W H) : gd g o H = gd g o W := by
  have := rel_sums n W H h
  unfold gd
  rw [this.1, this.2]
theorem rel_ok (n : Nat) (W H : List (Int × Int)) (h : Rel n W H) (hok : ∀ x ∈ W, Ok x) : ∀ x ∈ H, Ok x := by
  obtain ⟨h1, rfl⟩ := h
  exact fun x hx => hok x (by simp [hx])
theorem rgood (p n : Nat) (g o : Int) (H : List (Int × Int)) (T : List Nat) (w : World) (hrep : RRep w p n g o H T) (hH : H.length ≤ 32) (hok : ∀ x ∈ H, Ok x)
    (h1 : 0 ≤ g) (h2 : g ≤ 1000) (h3 : 0 ≤ o) (h4 : o ≤ 1000) :
    Calls Try.prog 16 #[.pointer (some ⟨p, 0, none⟩)] w fun e w' => e = .returned (.bool (gd g o H)) ∧ w.drew = w' := rgood_walk p n g o H T w hrep hH hok h1 h2 h3 h4
theorem num_still (n : Int) (w : World) : Calls Try.prog 11 #[.int .i64 n] w fun e w' => e = .returned (.int .i64 n) ∧ w' = w := (num_any n w).mono fun _ _ ⟨h1, h2⟩ => ⟨h1, h2.symm⟩
theorem rrep_drew {w : World} {p n : Nat} {g o : Int} {H : List (Int × Int)} {T : List Nat} (h : RRep w p n g o H T) : RRep w.drew p n g o H T := h.only (Only.drew (Only.refl [] _)) (by simp) (by simp)
theorem rrep_lt {w : World} {p n : Nat} {g o : Int} {H : List (Int × Int)} {T : List Nat} (h : RRep w p n g o H T) : p < w.heap.size := by
  obtain ⟨a1, c1, a2, c2, h1, _⟩ := h
  exact lt_of_block h1
theorem rnew (n g o : Int) (w : World) (h1 : 1 ≤ n) (h2 : n ≤ 32) (h3 : 1 ≤ o) (h4 : o ≤ 1000) (h5 : 0 ≤ g) (h6 : g ≤ o) :
    Calls Try.prog 10 #[.int .i64 n, .int .i64 g, .int .i64 o] w fun e w' => ∃ p, e = .returned (.tuple #[.pointer (some ⟨p, 0, none⟩), .int .i64 0]) ∧ RRep w' p n.toNat g o [] [] ∧ Only [] w w' ∧ w.heap.size ≤ p := by
  refine (rnew_good n g o w h1 h2 h3 h4 h5 h6).mono ?_
  rintro e w' ⟨rfl, rfl⟩
  refine ⟨_, rfl, ⟨none, 0, none, 0, ?_, Sl.nil _ _ _, Sl.nil _ _ _, by simp [blk], by simp [blk], by simp [blk], by simp [blk], by simp [blk]⟩, (Only.refl _ _).alloc _, Nat.le_refl _⟩
  rw [heap_alloc_new']
  rw [show ((n.toNat : Nat) : Int) = n by omega]
  rfl
/- The walk: the law's text returns true. -/
set_option maxRecDepth 100000 in
set_option maxHeartbeats 2000000 in
theorem walk (a0 : Int) (a1 : Int) (a2 : Int) (a3 : Option Addr) (len3 cap3 : Nat) (z3 : List Int) (a4 : Option Addr) (len4 cap4 : Nat) (z4 : List Int) (w : World) (w0 : (Lit.int .i64 a0).wf = true) (w1 : (Lit.int .i64 a1).wf = true) (w2 : (Lit.int .i64 a2).wf = true) (w3 : IsRow .i64 w a3 len3 cap3 z3) (w4 : IsRow .i64 w a4 len4 cap4 z4) :
    Calls Try.prog 3 #[.int .i64 a0, .int .i64 a1, .int .i64 a2, .slice a3 len3 cap3, .slice a4 len4 cap4] w fun e w' => e = .returned (.bool true) ∧ Below w.heap.size w w' := by
  have hlen3 := row_len w3
  have hlen4 := row_len w4
  clear w0 w1 w2
  by_cases h1 : 1 ≤ a0
  rotate_left
  · have k : Hid (a0 < 1 ∨ 32 < a0 ∨ a2 < 1 ∨ 1000 < a2 ∨ a1 < 0 ∨ a2 < a1) := by show _ ∨ _; omega
    clear h1
    go_enter Try.func3, Try.ntmps3
    go_wp2_with (first | (go_at_call 9; refine (new_bad _ _ _ _ k.out).mono ?_; rintro e w' ⟨rfl, rfl⟩) | (go_at_call 10; refine (rnew_bad _ _ _ _ k.out).mono ?_; rintro e w' ⟨rfl, rfl⟩) | (go_at_call 11; refine (num_any _ _).mono ?_; rintro e w' ⟨rfl, rfl⟩))
    refine (awake_any _).mono ?_
    rintro e w' ⟨rfl, Ow⟩
    go_wp2
    go_ret
    exact ⟨rfl, Ow.below _ (Nat.le_refl _) (by simp)⟩
  by_cases h2 : a0 ≤ 32
  rotate_left
  · have k : Hid (a0 < 1 ∨ 32 < a0 ∨ a2 < 1 ∨ 1000 < a2 ∨ a1 < 0 ∨ a2 < a1) := by show _ ∨ _; omega
    clear h2
    go_enter Try.func3, Try.ntmps3
    go_wp2_with (first | (go_at_call 9; refine (new_bad _ _ _ _ k.out).mono ?_; rintro e w' ⟨rfl, rfl⟩) | (go_at_call 10; refine (rnew_bad _ _ _ _ k.out).mono ?_; rintro e w' ⟨rfl, rfl⟩) | (go_at_call 11; refine (num_any _ _).mono ?_; rintro e w' ⟨rfl, rfl⟩))
    refine (awake_any _).mono ?_
    rintro e w' ⟨rfl, Ow⟩
    go_wp2
    go_ret
    exact ⟨rfl, Ow.below _ (Nat.le_refl _) (by simp)⟩
  by_cases h3 : 1 ≤ a2
  rotate_left
  · have k : Hid (a0 < 1 ∨ 32 < a0 ∨ a2 < 1 ∨ 1000 < a2 ∨ a1 < 0 ∨ a2 < a1) := by show _ ∨ _; omega
    clear h3
    go_enter Try.func3, Try.ntmps3
    go_wp2_with (first | (go_at_call 9; refine (new_bad _ _ _ _ k.out).mono ?_; rintro e w' ⟨rfl, rfl⟩) | (go_at_call 10; refine (rnew_bad _ _ _ _ k.out).mono ?_; rintro e w' ⟨rfl, rfl⟩) | (go_at_call 11; refine (num_any _ _).mono ?_; rintro e w' ⟨rfl, rfl⟩))
    refine (awake_any _).mono ?_
    rintro e w' ⟨rfl, Ow⟩
    go_wp2
    go_ret
    exact ⟨rfl, Ow.below _ (Nat.le_refl _) (by simp)⟩
  by_cases h4 : a2 ≤ 1000
  rotate_left
  · have k : Hid (a0 < 1 ∨ 32 < a0 ∨ a2 < 1 ∨ 1000 < a2 ∨ a1 < 0 ∨ a2 < a1) := by show _ ∨ _; omega
    clear h4
    go_enter Try.func3, Try.ntmps3
    go_wp2_with (first | (go_at_call 9; refine (new_bad _ _ _ _ k.out).mono ?_; rintro e w' ⟨rfl, rfl⟩) | (go_at_call 10; refine (rnew_bad _ _ _ _ k.out).mono ?_; rintro e w' ⟨rfl, rfl⟩) | (go_at_call 11; refine (num_any _ _).mono ?_; rintro e w' ⟨rfl, rfl⟩))
    refine (awake_any _).mono ?_
    rintro e w' ⟨rfl, Ow⟩
    go_wp2
    go_ret
    exact ⟨rfl, Ow.below _ (Nat.le_refl _) (by simp)⟩
  by_cases h5 : 0 ≤ a1
  rotate_left
  · have k : Hid (a0 < 1 ∨ 32 < a0 ∨ a2 < 1 ∨ 1000 < a2 ∨ a1 < 0 ∨ a2 < a1) := by show _ ∨ _; omega
    clear h5
    go_enter Try.func3, Try.ntmps3
    go_wp2_with (first | (go_at_call 9; refine (new_bad _ _ _ _ k.out).mono ?_; rintro e w' ⟨rfl, rfl⟩) | (go_at_call 10; refine (rnew_bad _ _ _ _ k.out).mono ?_; rintro e w' ⟨rfl, rfl⟩) | (go_at_call 11; refine (num_any _ _).mono ?_; rintro e w' ⟨rfl, rfl⟩))
    refine (awake_any _).mono ?_
    rintro e w' ⟨rfl, Ow⟩
    go_wp2
    go_ret
    exact ⟨rfl, Ow.below _ (Nat.le_refl _) (by simp)⟩
  by_cases h6 : a1 ≤ a2
  rotate_left
  · have k : Hid (a0 < 1 ∨ 32 < a0 ∨ a2 < 1 ∨ 1000 < a2 ∨ a1 < 0 ∨ a2 < a1) := by show _ ∨ _; omega
    clear h6
    go_enter Try.func3, Try.ntmps3
    go_wp2_with (first | (go_at_call 9; refine (new_bad _ _ _ _ k.out).mono ?_; rintro e w' ⟨rfl, rfl⟩) | (go_at_call 10; refine (rnew_bad _ _ _ _ k.out).mono ?_; rintro e w' ⟨rfl, rfl⟩) | (go_at_call 11; refine (num_any _ _).mono ?_; rintro e w' ⟨rfl, rfl⟩))
    refine (awake_any _).mono ?_
    rintro e w' ⟨rfl, Ow⟩
    go_wp2
    go_ret
    exact ⟨rfl, Ow.below _ (Nat.le_refl _) (by simp)⟩
  go_enter Try.func3, Try.ntmps3
  go_wp2_with fail
  refine (qnew a0 a1 a2 w h1 h2 h3 h4 h5 h6).mono ?_
  rintro e wa ⟨p, r, rfl, hq, O1, hp, hr⟩
  go_wp2_with fail
  refine (rnew a0 a1 a2 wa h1 h2 h3 h4 h5 h6).mono ?_
  rintro e wb ⟨pr, rfl, hrr, O2, hpr⟩
  have hq2 := hq.only O2 (by simp) (by simp)
  have hql := hq.lt
  obtain ⟨hql1, hql2⟩ := hql
  have B0 : Below w.heap.size w wb := (O1.trans O2).below _ (Nat.le_refl _) (by simp)
  have s1' := O1.size
  have R0 : Hid (Rel a0.toNat (List.replicate a0.toNat ((0 : Int), (0 : Int))) []) := ⟨by simp, by simp⟩
  generalize List.replicate a0.toNat ((0 : Int), (0 : Int)) = W0 at *
  clear hq O1 O2
  go_wp2_with (go_at_call 11; refine (num_any _ _).mono ?_; rintro e w' ⟨rfl, rfl⟩)
  go_loopw [15] (fun i wr => ∃ (k : Nat) (W H : List (Int × Int)) (T : List Nat), k ≤ len3 ∧ k ≤ len4 ∧ k ≤ 100 ∧ i = .int .i64 k ∧ QA wr p r a1 a2 W ∧ RRep wr pr a0.toNat a1 a2 H T ∧ Rel a0.toNat W H ∧ (∀ x ∈ T, x ≠ p ∧ x ≠ r ∧ w.heap.size ≤ x) ∧ Below w.heap.size w wr) (fun i _ => 100 - (intOf i).toNat)
  case atStart => exact ⟨0, W0, [], [], Nat.zero_le _, Nat.zero_le _, by omega, rfl, hq2, hrr, R0.out, by simp, B0⟩
  case round =>
    obtain ⟨k, W, H, T, hk3, hk4, hk100, rfl, hq, hr', hrel, hT, hbel⟩ := hrel
    have RL : Hid (Rel a0.toNat W H) := hrel
    have HT : Hid (∀ x ∈ T, x ≠ p ∧ x ≠ r ∧ w.heap.size ≤ x) := hT
    clear hrel hT hq2 hrr B0 R0
    by_cases hl2 : k < len3
    · by_cases hl3 : k < len4
      · by_cases hl6 : k < 100
        · obtain ⟨b2, off2, rfl, hbl2, hc2, hz21, hz22⟩ := row_at w3 k hl2
          obtain ⟨b3, off3, rfl, hbl3, hc3, hz31, hz32⟩ := row_at w4 k hl3
          have hcr2 : wr.cell? ⟨b2, off2 + k, none⟩ = some (.int .i64 (z3.getD k 0)) := (hbel.cell hbl2).trans hc2
          have hcr3 : wr.cell? ⟨b3, off3 + k, none⟩ = some (.int .i64 (z4.getD k 0)) := (hbel.cell hbl3).trans hc3
          generalize z3.getD k 0 = s at *
          generalize z4.getD k 0 = x at *
          have d1 : decide (k < len3) = true := by simp; omega
          have d2 : decide (k < len4) = true := by simp; omega
          have d3 : decide ((k : Int) < 100) = true := by simp; omega
          have kl3 : (k : Int) < (len3 : Int) := by omega
          have kl4 : (k : Int) < (len4 : Int) := by omega
          go_wp2_with fail
          clear d1 d2 d3
          refine wp_region_tail 9 mixed (by kernel_rfl) ?_
          simp only [List.take_succ_cons, List.take_zero, List.drop_succ_cons, List.drop_zero]
          repeat (refine wpStill_op rfl rfl (fun K hK => ?_); go_step; refine hK _ ?_; clear hK K)
          refine wpStill_nil ?_
          have hqd := hq.drew
          have hrd := rrep_drew hr'
          have hbd := hbel.drew
          have lq := hq.lt
          have lr := rrep_lt hr'
          by_cases hok : 0 ≤ x ∧ x ≤ s ∧ s ≤ 2147483647
          · obtain ⟨k1, k2, k3⟩ := hok
            go_wp2_with fail
            refine (qadd p r a1 a2 s x W _ hqd k3 k1 k2).mono ?_
            rintro e w1 ⟨rfl, hq1, Oq⟩
            have hr1 := RRep.only hrd Oq (by simp; omega) (fun y hy => by have := HT.out y hy; simp; omega)
            have B1 : Below w.heap.size w w1 := hbd.trans (Oq.below _ hbd.size (by simp; omega))
            have hcs2 : w1.cell? ⟨b2, off2 + k, none⟩ = some (.int .i64 s) := (B1.cell hbl2).trans hc2
            have hcs3 : w1.cell? ⟨b3, off3 + k, none⟩ = some (.int .i64 x) := (B1.cell hbl3).trans hc3
            clear hq hr' hqd hrd hbel hbd hcr2 hcr3 hc2 hc3
            go_upto_region 11 with (fail)
            refine wp_region_float 11 [11, 12, 13, 14, 16, 15, 17, 18, 19] mixed (by kernel_rfl) (fun d v c a w h => by cases d <;> exact h) ?_
            simp only [List.take_succ_cons, List.take_zero, List.filterMap_cons, List.filterMap_nil, List.getElem?_cons_succ, List.getElem?_cons_zero]
            refine wpStill_op rfl rfl (fun K hK => ?_); go_step; refine hK _ ?_; clear hK K
            still_call (num_still _ _)
            repeat (refine wpStill_op rfl rfl (fun K hK => ?_); go_step; refine hK _ ?_; clear hK K)
            refine wpStill_nil ?_
            go_wp2_with fail
            refine (radd_walk pr a0.toNat a1 a2 s x H T _ (rrep_drew hr1) (by omega) (by omega) RL.out.1 (by omega) k3 k1 k2).mono ?_
            rintro e w2 ⟨rfl, T', hr2, O2, hT2⟩
            have hpT : p ∉ pr :: T := fun hm => by
              rcases List.mem_cons.1 hm with h | h
              · omega
              · exact (HT.out p h).1 rfl
            have hrT : r ∉ pr :: T := fun hm => by
              rcases List.mem_cons.1 hm with h | h
              · omega
              · exact (HT.out r h).2.1 rfl
            have hq2 := hq1.drew.only O2 hpT hrT
            have B2 : Below w.heap.size w w2 := B1.drew.trans (O2.below _ B1.drew.size (fun y hy => by
              rcases List.mem_cons.1 hy with h | h
              · omega
              · exact (HT.out y h).2.2))
            have RL2 : Hid (Rel a0.toNat (W.tail ++ [(s, x)]) (nextH a0.toNat H (s, x))) := rel_next _ _ _ _ (by omega) RL.out
            have l1 := Oq.size
            have HT2 : Hid (∀ y ∈ T', y ≠ p ∧ y ≠ r ∧ w.heap.size ≤ y) := fun y hy => by
              have e0 : wr.heap.size ≤ w1.heap.size := l1
              have e1 : w.heap.size ≤ w1.heap.size := B1.size
              rcases hT2 y hy with h | h
              · exact HT.out y h
              · have e2 : w1.heap.size ≤ y := h
                omega
            have ok2 := rel_ok _ _ _ RL2.out hq2.ok
            have GE := rel_gd _ _ _ a1 a2 RL2.out
            have hl2' : (nextH a0.toNat H (s, x)).length ≤ 32 := by have := RL2.out.1; omega
            clear hq1 hr1 O2 B1 hcs2 hcs3 RL HT hpT hrT hT2 Oq
            generalize nextH a0.toNat H (s, x) = H' at *
            generalize W.tail ++ [(s, x)] = W' at *
            have OK2 : Hid (∀ x ∈ H', Ok x) := ok2
            clear ok2
            go_wp2_with fail
            refine (qgood p r a1 a2 _ _ hq2).mono ?_
            rintro e w' ⟨rfl, rfl⟩
            go_wp2_with fail
            refine (rgood pr a0.toNat a1 a2 _ T' _ (rrep_drew hr2) hl2' OK2.out (by omega) (by omega) (by omega) (by omega)).mono ?_
            rintro e w' ⟨rfl, rfl⟩
            go_wp2
            go_roundw
            case rel => exact ⟨k + 1, _, _, T', by omega, by omega, by omega, by go_num, hq2.drew.drew, rrep_drew (rrep_drew hr2), RL2.out, HT2.out, B2.drew.drew⟩
            case measure => simp [intOf]; omega
          · have KB : Hid (s < 0 ∨ 2147483647 < s ∨ x < 0 ∨ s < x) := by show _ ∨ _; omega
            clear hok
            go_wp2_with fail
            refine (qadd_bad _ _ _ _ KB.out).mono ?_
            rintro e w1 ⟨rfl, rfl⟩
            have hcs2 : wr.drew.cell? ⟨b2, off2 + k, none⟩ = some (.int .i64 s) := hcr2
            have hcs3 : wr.drew.cell? ⟨b3, off3 + k, none⟩ = some (.int .i64 x) := hcr3
            have GE := rel_gd _ _ _ a1 a2 RL.out
            have ok2 := rel_ok _ _ _ RL.out hq.ok
            have OK2 : Hid (∀ x ∈ H, Ok x) := ok2
            have hl2' : H.length ≤ 32 := by have := RL.out.1; omega
            clear hq hr' hbel hcr2 hcr3 hc2 hc3 ok2
            generalize wr.drew = w1 at *
            go_upto_region 11 with (fail)
            refine wp_region_float 11 [11, 12, 13, 14, 16, 15, 17, 18, 19] mixed (by kernel_rfl) (fun d v c a w h => by cases d <;> exact h) ?_
            simp only [List.take_succ_cons, List.take_zero, List.filterMap_cons, List.filterMap_nil, List.getElem?_cons_succ, List.getElem?_cons_zero]
            refine wpStill_op rfl rfl (fun K hK => ?_); go_step; refine hK _ ?_; clear hK K
            still_call (num_still _ _)
            repeat (refine wpStill_op rfl rfl (fun K hK => ?_); go_step; refine hK _ ?_; clear hK K)
            refine wpStill_nil ?_
            go_wp2_with fail
            refine (radd_bad _ _ _ _ KB.out).mono ?_
            rintro e w' ⟨rfl, rfl⟩
            go_wp2_with fail
            refine (qgood p r a1 a2 _ _ hqd.drew).mono ?_
            rintro e w' ⟨rfl, rfl⟩
            go_wp2_with fail
            refine (rgood pr a0.toNat a1 a2 _ T _ (rrep_drew (rrep_drew hrd)) hl2' OK2.out (by omega) (by omega) (by omega) (by omega)).mono ?_
            rintro e w' ⟨rfl, rfl⟩
            go_wp2
            go_roundw
            case rel => exact ⟨k + 1, _, _, T, by omega, by omega, by omega, by go_num, hqd.drew.drew.drew, rrep_drew (rrep_drew (rrep_drew hrd)), RL.out, HT.out, hbd.drew.drew.drew⟩
            case measure => simp [intOf]; omega
        · have d1 : decide (k < len3) = true := by simp; omega
          have d2 : decide (k < len4) = true := by simp; omega
          have d3 : decide ((k : Int) < 100) = false := by simp; omega
          go_wp2_with fail
          refine (awake_any _).mono ?_
          rintro e w' ⟨rfl, Ow⟩
          go_wp2
          go_ret
          exact ⟨rfl, hbel.trans (Ow.below _ hbel.size (by simp))⟩
      · have d1 : decide (k < len3) = true := by simp; omega
        have d2 : decide (k < len4) = false := by simp; omega
        go_wp2_with fail
        refine (awake_any _).mono ?_
        rintro e w' ⟨rfl, Ow⟩
        go_wp2
        go_ret
        exact ⟨rfl, hbel.trans (Ow.below _ hbel.size (by simp))⟩
    · have d1 : decide (k < len3) = false := by simp; omega
      go_wp2_with fail
      refine (awake_any _).mono ?_
      rintro e w' ⟨rfl, Ow⟩
      go_wp2
      go_ret
      exact ⟨rfl, hbel.trans (Ow.below _ hbel.size (by simp))⟩

/- The row's step. -/
set_option maxRecDepth 100000 in
theorem lifted (os : Os) (started : os.Started) (H : Type) (enc : TypeId × Value → H) :
    ReturnsInHanded {} Try.checked os 3 .any (Rows.qualitiesSpec.pre6 enc Try.prog Try.f3 Rows.qualitiesRow.domain false) (Rows.qualitiesSpec.post enc Try.prog Try.f3 false true false false) := by
  refine returnsInHanded_of_change (C := Try.checked) own started (by kernel_rfl) Try.func3
    (ChangeSpec.witness6 (enc := enc) (C := Try.checked) false ⟨#[], #[.int .i64 0, .int .i64 0, .int .i64 0, .slice none 0 0, .slice none 0 0], []⟩ 8 (by kernel_rfl) (by kernel_rfl) (by kernel_rfl) (by kernel_rfl)) ?_
  intro W base args ds gs before hval0 hW hcnd _
  have hval : ∀ (j : Nat) t v, Try.f3.params[j]? = some t → args[j]? = some v → Value.okWide Try.prog W .any base t v := hval0
  have hW' := hW
  obtain ⟨p, q, hA0, hV, rfl, hfz, hnd⟩ := hW
  have hA : DataW.TrodAll enc Try.prog W 0 (fun _ => true) true Try.f3.params.toList args.toList ds p := hA0
  rw [Try.params3] at hA hval
  obtain ⟨v0, vs0, d0, ds0, p0, q0, hargs, rfl, rfl, h0, r0⟩ := trodAll_cons hA
  obtain ⟨v1, vs1, d1, ds1, p1, q1, rfl, rfl, rfl, h1, r1⟩ := trodAll_cons r0
  obtain ⟨v2, vs2, d2, ds2, p2, q2, rfl, rfl, rfl, h2, r2⟩ := trodAll_cons r1
  obtain ⟨v3, vs3, d3, ds3, p3, q3, rfl, rfl, rfl, h3, r3⟩ := trodAll_cons r2
  obtain ⟨v4, vs4, d4, ds4, p4, q4, rfl, rfl, rfl, h4, r4⟩ := trodAll_cons r3
  obtain ⟨rfl, rfl, rfl⟩ := trodAll_nil r4
  obtain rfl : args = #[v0, v1, v2, v3, v4] := by cases args; simp_all
  obtain ⟨rfl, rfl⟩ := trodVars_none hV
  obtain ⟨a0, rfl, rfl, rfl, w0⟩ := open_int Try.underlying3 (hval 0 3 v0 rfl rfl) h0
  obtain ⟨a1, rfl, rfl, rfl, w1⟩ := open_int Try.underlying3 (hval 1 3 v1 rfl rfl) h1
  obtain ⟨a2, rfl, rfl, rfl, w2⟩ := open_int Try.underlying3 (hval 2 3 v2 rfl rfl) h2
  obtain ⟨a3, len3, cap3, rfl⟩ := okWide_slice Try.underlying22 (hval 3 22 v3 rfl rfl)
  have k3 := h3
  have lt3 : ∀ x ∈ p3, x.block < W.heap.size := by obtain ⟨m, hm⟩ := k3; exact DataW.trod_lt m _ _ _ hm
  obtain ⟨z3, w3⟩ : ∃ zs, IsRow .i64 W a3 len3 cap3 zs := by
    obtain ⟨fuel, hf⟩ := h3
    rcases open_ints Try.underlying22 Try.underlying3 (by kernel_rfl) hf with ⟨hcs, _⟩ | ⟨x, l, c, zs, hcs, _, hl, hm, hz, _, hcell, hwz⟩
    · simp [Value.cells] at hcs
      obtain ⟨rfl, rfl, rfl⟩ := hcs
      exact ⟨[], .inl ⟨rfl, rfl, rfl, rfl⟩⟩
    · simp [Value.cells] at hcs
      obtain ⟨rfl, rfl, rfl⟩ := hcs
      exact ⟨zs, .inr ⟨_, rfl, hl, hm, by simpa using hz, hcell, hwz⟩⟩
  obtain ⟨a4, len4, cap4, rfl⟩ := okWide_slice Try.underlying22 (hval 4 22 v4 rfl rfl)
  have k4 := h4
  have lt4 : ∀ x ∈ p4, x.block < W.heap.size := by obtain ⟨m, hm⟩ := k4; exact DataW.trod_lt m _ _ _ hm
  obtain ⟨z4, w4⟩ : ∃ zs, IsRow .i64 W a4 len4 cap4 zs := by
    obtain ⟨fuel, hf⟩ := h4
    rcases open_ints Try.underlying22 Try.underlying3 (by kernel_rfl) hf with ⟨hcs, _⟩ | ⟨x, l, c, zs, hcs, _, hl, hm, hz, _, hcell, hwz⟩
    · simp [Value.cells] at hcs
      obtain ⟨rfl, rfl, rfl⟩ := hcs
      exact ⟨[], .inl ⟨rfl, rfl, rfl, rfl⟩⟩
    · simp [Value.cells] at hcs
      obtain ⟨rfl, rfl, rfl⟩ := hcs
      exact ⟨zs, .inr ⟨_, rfl, hl, hm, by simpa using hz, hcell, hwz⟩⟩
  clear hA0 hval0
  refine (walk a0 a1 a2 a3 len3 cap3 z3 a4 len4 cap4 z4 W w0 w1 w2 w3 w4).mono fun e W' ⟨he, bel⟩ => ?_
  subst he
  exact ⟨_, rfl, _, _, _, [], _, [], hW', trodAll_mk1 (shut_bool Try.underlying4 _), (trodAll_cons_mk (shut_int Try.underlying3 w0) (trodAll_cons_mk (shut_int Try.underlying3 w1) (trodAll_cons_mk (shut_int Try.underlying3 w2) (trodAll_cons_mk (Below.trod laidOut (by kernel_rfl) (of_decide_eq_true (by kernel_rfl)) k3 bel lt3) (trodAll_cons_mk (Below.trod laidOut (by kernel_rfl) (of_decide_eq_true (by kernel_rfl)) k4 bel lt4) trodAll_mk0))))), rfl, bel.frame _, fun h => by cases h⟩

theorem over : Rows.qualitiesRow.holds Try.pinned (OpenSpec.ofChange Rows.qualitiesSpec) :=
  OpenClaim.holds_of_wide 3 Try.f3 rfl rfl rfl rfl rfl rfl rfl ⟨rfl, rfl, rfl, rfl, rfl⟩ rfl rfl rfl rfl rfl (by kernel_rfl) Try.func3 (by kernel_rfl)
    (of_decide_eq_true (by kernel_rfl)) (by unfold Func.isWrapper; first | (rw [if_pos (by decide +kernel)]; kernel_rfl) | (rw [if_neg (by decide +kernel)]; exact ⟨rfl, rfl⟩))
    (fun os started H enc _ => lifted os started H enc)

/-- The statement. -/
theorem proved : Rows.QualitiesSaid := over
#print axioms proved
end Go.Proofs.Ytkmoakbebpibdaa.qualities

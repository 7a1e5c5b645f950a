/- Proved here: withylaw23.Meters returns true for every input and leaves its arguments as they were (the given statement Rows.MetersSaid). Conditions: none. -/
import Derived.Test.YtpgjlkbjejlinaaRows
import Derived.Test.YtpgjlkbjejlinaaSame
import Derived.Test.YtpgjlkbjejlinaaMask
import Derived.WalkKit
import Derived.Lib.Hide
import Derived.Deep.Cut
import Derived.StillTactics
import Derived.ProofKit
import Derived.OpenShut
import Derived.ShutString
import Derived.ChangeOld
import Derived.Below
namespace Go.Proofs.Ytpgjlkbjejlinaa.meters
open Go.ChangeShapes Go.WideShapes Go.ChangeAt Go.RowKit
open Plain
open Go.ChangeMaps (open_string shut_string)
set_option linter.unusedVariables false

theorem own : ownKnob Try.prog.godebug = none := by kernel_rfl
theorem laidOut : laidOutB Try.prog = true := by kernel_rfl

/-- WHAT THE WALK IS TOLD OF A SLICE OF INTEGERS THAT CAME IN: it is nil; or it leads to a row of 'cap' cells, the numbers 'zs' (the first 'len' are its elements, the rest its spare room), each fitting its kind. -/
def IsRow (k : IntKind) (w : World) (a : Option Addr) (len cap : Nat) (zs : List Int) : Prop :=
  (a = none ∧ len = 0 ∧ cap = 0 ∧ zs = []) ∨
  ∃ x, a = some x ∧ len ≤ cap ∧ cap ≤ maxLen ∧ zs.length = cap ∧ (∀ i, i < zs.length → w.cell? (x.add i) = some (.int k (zs.getD i 0))) ∧ ∀ n ∈ zs, (Lit.int k n).wf = true

/-- an element of a row that came in. -/
theorem row_at {w : World} {a : Option Addr} {len cap : Nat} {zs : List Int} (h : IsRow .i64 w a len cap zs) (i : Nat) (hi : i < len) :
    ∃ b off, a = some ⟨b, off, none⟩ ∧ b < w.heap.size ∧ w.cell? ⟨b, off + i, none⟩ = some (.int .i64 (zs.getD i 0)) ∧ -9223372036854775808 ≤ zs.getD i 0 ∧ zs.getD i 0 ≤ 9223372036854775807 := by
  rcases h with ⟨_, rfl, _, _⟩ | ⟨x, rfl, hl, hm, hz, hcell, hwz⟩
  · omega
  · have hc := hcell i (by omega)
    obtain ⟨b, off, spot⟩ := x
    have hc0 := hcell 0 (by omega)
    have hspot : spot = none := by simpa [Addr.add] using World.cell?_spot hc0
    subst hspot
    rw [Addr.add_lit] at hc
    have hb := bounds_i64 (hwz (zs.getD i 0) (by rw [show zs.getD i 0 = zs[i]'(by omega) from by simp [List.getD, show i < zs.length by omega]]; exact List.getElem_mem _))
    exact ⟨b, off, rfl, World.block_lt_of_cell? w _ hc, hc, hb.1, hb.2⟩
theorem row_len {w : World} {a : Option Addr} {len cap : Nat} {zs : List Int} (h : IsRow .i64 w a len cap zs) : len ≤ 9223372036854775807 := by
  rcases h with ⟨_, rfl, _, _⟩ | ⟨x, rfl, hl, hm, _⟩
  · omega
  · unfold maxLen at hm; omega

theorem num_still (n : Int) (w : World) : Calls Try.prog 12 #[.int .i64 n] w fun e w' => e = .returned (.int .i64 n) ∧ w' = w := (num_any n w).mono fun _e _w' ⟨a, b⟩ => ⟨a, b.symm⟩
theorem RR.lt {w : World} {p n : Nat} {h l k : Int} {H : List (Int × Int)} {sh ab be : Int} {T : List Nat} (m : RR w p n h l k H sh ab be T) : p < w.heap.size := by
  obtain ⟨_, _, _, _, h, _⟩ := m
  exact lt_of_block h

/- The walk: the law's text returns true. -/
set_option maxRecDepth 100000 in
set_option maxHeartbeats 2000000 in
theorem walk (a0 : Int) (a1 : Int) (a2 : Int) (a3 : Int) (a4 : Option Addr) (len4 cap4 : Nat) (z4 : List Int) (a5 : Option Addr) (len5 cap5 : Nat) (z5 : List Int) (w : World) (w0 : (Lit.int .i64 a0).wf = true) (w1 : (Lit.int .i64 a1).wf = true) (w2 : (Lit.int .i64 a2).wf = true) (w3 : (Lit.int .i64 a3).wf = true) (w4 : IsRow .i64 w a4 len4 cap4 z4) (w5 : IsRow .i64 w a5 len5 cap5 z5) :
    Calls Try.prog 3 #[.int .i64 a0, .int .i64 a1, .int .i64 a2, .int .i64 a3, .slice a4 len4 cap4, .slice a5 len5 cap5] w fun e w' => e = .returned (.bool true) ∧ Below w.heap.size w w' := by
  have hlen4 := row_len w4
  have hlen5 := row_len w5
  by_cases hb : mayB a0 a1 a2 a3 = true
  rotate_left
  · have hb' : mayB a0 a1 a2 a3 = false := by simpa using hb
    have HB := Lib.hid hb'
    clear hb hb' w0 w1 w2 w3 w4 w5
    go_enter Try.func3, Try.ntmps3
    go_wp2_with fail
    refine (new_bad a0 a1 a2 a3 w HB.out).mono ?_
    rintro e w' ⟨rfl, rfl⟩
    go_wp2_with fail
    refine (rnew_bad a0 a1 a2 a3 w HB.out).mono ?_
    rintro e w' ⟨rfl, rfl⟩
    go_wp2_with (go_at_call 12; refine (num_any _ _).mono ?_; rintro e w' ⟨rfl, rfl⟩)
    refine (awake_any w).mono ?_
    rintro e wa ⟨rfl, O0⟩
    go_wp2_with fail
    go_ret
    exact ⟨rfl, O0.below _ (Nat.le_refl _) (by simp)⟩
  have hP : 1 ≤ a0 ∧ a0 ≤ 32 ∧ 1 ≤ a1 ∧ a1 ≤ 1000 ∧ 0 ≤ a2 ∧ a2 < a1 ∧ 1 ≤ a3 ∧ a3 ≤ 4096 := by simpa [mayB] using hb
  obtain ⟨n, rfl⟩ := Int.eq_ofNat_of_zero_le (show 0 ≤ a0 by omega)
  have HB := Lib.hid hb
  clear hb w0 w1 w2 w3
  have hn1 : 1 ≤ n := by omega
  have hn2 : n ≤ 32 := by omega
  have hk1 : 1 ≤ a3 := by omega
  have hk2 : a3 ≤ 4096 := by omega
  have E0 : Eqv n a3 (st0 n) [] 0 0 0 := Eqv.first n a3 hk1
  clear hP
  go_enter Try.func3, Try.ntmps3
  go_wp2_with fail
  refine (new_st n a1 a2 a3 w HB.out).mono ?_
  rintro e wb ⟨pa, ra, rfl, ma, O1, hpa, hra⟩
  go_wp2_with fail
  refine (rnew_good n a1 a2 a3 wb HB.out).mono ?_
  rintro e wc ⟨rfl, hwc⟩
  obtain ⟨l1, l2⟩ := MA.lt ma
  have O2 : Only [] wb wc := by rw [hwc]; exact (Only.refl _ _).alloc _
  have hp1 : wc.heap[wb.heap.size]? = some (.cells #[.int .i64 0, .int .i64 n, .int .i64 a1, .int .i64 a2, .int .i64 a3, .slice none 0 0, .slice none 0 0, .int .i64 0, .int .i64 0] 38 (0, 0)) := by rw [hwc]; exact heap_alloc_new' _ _
  clear hwc
  have rr : RR wc wb.heap.size n a1 a2 a3 [] 0 0 0 [] := ⟨none, 0, none, 0, hp1, Sl.nil _ _ _, Sl.nil _ _ _, by simp [blk], by simp [blk], by simp [blk], by simp [blk], by simp [blk]⟩
  have ma2 := ma.only O2 (by simp) (by simp)
  have B0 : Below w.heap.size w wc := (O1.trans O2).below _ (Nat.le_refl _) (by simp)
  have hpr : w.heap.size ≤ wb.heap.size := O1.size
  clear O1 O2 ma hp1 HB
  generalize wb.heap.size = pr at *
  generalize st0 n = S0 at *
  go_wp2_with (go_at_call 12; refine (num_any _ _).mono ?_; rintro e w' ⟨rfl, rfl⟩)
  go_loopw [17] (fun i wr => ∃ (t : Nat) (S : St) (H : List (Int × Int)) (sh ab be : Int) (T : List Nat), t ≤ len4 ∧ t ≤ len5 ∧ t ≤ 200 ∧ i = .int .i64 t ∧ MS wr pa ra a1 a2 a3 S ∧ RR wr pr n a1 a2 a3 H sh ab be T ∧ Eqv n a3 S H sh ab be ∧ (∀ k ∈ T, pr < k) ∧ Below w.heap.size w wr) (fun i _ => 200 - (intOf i).toNat)
  case atStart => exact ⟨0, S0, [], 0, 0, 0, [], by omega, by omega, by omega, rfl, ma2, rr, E0, by simp, B0⟩
  case round =>
    clear B0 ma2 rr E0
    obtain ⟨t, S, H, sh, ab, be, T0, ht1, ht2, ht3, rfl, ma, rr, hE, hT, hbel⟩ := hrel
    by_cases hl1 : t < len4
    rotate_left
    · have d1 : decide (t < len4) = false := by simp; omega
      have O9 := Lib.hid hbel
      clear ma rr hE hbel
      go_wp2_with fail
      refine (awake_any _).mono ?_
      rintro e wz ⟨rfl, Oz⟩
      go_wp2_with fail
      go_ret
      exact ⟨rfl, O9.out.trans (Oz.below _ O9.out.size (by simp))⟩
    have d1 : decide (t < len4) = true := by simp; omega
    by_cases hl2 : t < len5
    rotate_left
    · have d2 : decide (t < len5) = false := by simp; omega
      have O9 := Lib.hid hbel
      clear ma rr hE hbel
      go_wp2_with fail
      refine (awake_any _).mono ?_
      rintro e wz ⟨rfl, Oz⟩
      go_wp2_with fail
      go_ret
      exact ⟨rfl, O9.out.trans (Oz.below _ O9.out.size (by simp))⟩
    have d2 : decide (t < len5) = true := by simp; omega
    by_cases hl3 : t < 200
    rotate_left
    · have d3 : decide ((t : Int) < 200) = false := by simp; omega
      have O9 := Lib.hid hbel
      clear ma rr hE hbel
      go_wp2_with fail
      refine (awake_any _).mono ?_
      rintro e wz ⟨rfl, Oz⟩
      go_wp2_with fail
      go_ret
      exact ⟨rfl, O9.out.trans (Oz.below _ O9.out.size (by simp))⟩
    have d3 : decide ((t : Int) < 200) = true := by simp; omega
    obtain ⟨b4, off4, rfl, hbl4, hc4, hz41, hz42⟩ := row_at w4 t hl1
    obtain ⟨b5, off5, rfl, hbl5, hc5, hz51, hz52⟩ := row_at w5 t hl2
    generalize z4.getD t 0 = y4 at *
    generalize z5.getD t 0 = y5 at *
    have HC4 := Lib.hid (fun w' (h : Below w.heap.size w w') => (h.cell hbl4).trans hc4)
    have HC5 := Lib.hid (fun w' (h : Below w.heap.size w w') => (h.cell hbl5).trans hc5)
    clear hc4 hc5
    go_wp2_with fail
    refine wp_region_mix (fun w' => Below w.heap.size w w') [(0, true), (1, true), (2, true), (5, true), (6, true), (3, true), (4, true), (7, false), (8, false), (9, false), (10, false), (11, true), (12, true), (13, false), (14, false)] mixed (by kernel_rfl) (fun d v c a w h => by cases d <;> exact h) (Below.drew hbel) ?_
    simp only [List.filterMap_cons, List.filterMap_nil, List.getElem?_cons_succ, List.getElem?_cons_zero, Option.map_some]
    have ma1 := ma.only (Only.drew (Only.refl [] _)) (by simp) (by simp)
    have rr1 := rr.only (Only.drew (Only.refl [] _)) (by simp) (by simp)
    have B1 := hbel.drew
    clear ma rr hbel
    generalize wr.drew = w1 at *
    iterate 5 ((with_reducible refine mix_move ?_ ?_); (focus rfl))
    ((with_reducible refine mix_free ?_ (v := ?_) (fun w' h' => ?_) ?_); (focus rfl); rotate_left; (focus (go_simp <;> with_reducible rfl)))
    ((with_reducible refine mix_free ?_ (v := ?_) (fun w' h' => ?_) ?_); (focus rfl); rotate_left; (focus (have c4 := HC4.out _ h'; go_simp <;> with_reducible rfl)))
    ((with_reducible refine mix_op ?_ ?_); (focus rfl); intro K hK; go_step; refine hK _ _ B1 ?_; clear hK K)
    have c5 := HC5.out _ B1
    ((with_reducible refine mix_op ?_ ?_); (focus rfl); intro K hK; go_step; refine hK _ _ B1 ?_; clear hK K)
    clear c5
    with_reducible refine mix_op ?_ ?_
    · rfl
    intro K hK
    go_step
    by_cases hok : Ok (y4, y5)
    · have HK := Lib.hid (hE.tick a1 a2 (y4, y5) hok hn1 hk1)
      have HOK := Lib.hid (And.intro hok (hE.oks (y4, y5) hok))
      have HEE := Lib.hid hE
      clear hok hE
      refine (tick_any pa ra a1 a2 a3 y4 y5 S _ ma1 HOK.out.1).mono ?_
      rintro e w2 ⟨rfl, ma2, Oa⟩
      have rr2 := rr1.only Oa (by simp; omega) (fun k hk => by have := hT k hk; simp; omega)
      have B2 : Below w.heap.size w w2 := B1.trans (Oa.below _ B1.size (by simp; omega))
      clear ma1 rr1 Oa B1
      refine hK _ _ B2 ?_
      clear hK K
      ((with_reducible refine mix_op ?_ ?_); (focus rfl); intro K hK; go_step; refine hK _ _ B2 ?_; clear hK K)
      iterate 2 ((with_reducible refine mix_free ?_ (v := ?_) (fun w' h' => ?_) ?_); (focus rfl); rotate_left; (focus (go_simp <;> with_reducible rfl)))
      iterate 2 ((with_reducible refine mix_op ?_ ?_); (focus rfl); intro K hK; go_step; refine hK _ _ B2 ?_; clear hK K)
      refine mix_nil ?_
      go_wp2_with fail
      refine wp_region_mix (fun w' => Below w.heap.size w w') [(0, true), (1, true), (2, true), (5, true), (6, true), (3, true), (4, true), (7, false), (8, false), (9, false), (10, false), (11, true), (12, true), (13, false), (14, false)] mixed (by kernel_rfl) (fun d v c a w h => by cases d <;> exact h) (Below.drew B2) ?_
      simp only [List.filterMap_cons, List.filterMap_nil, List.getElem?_cons_succ, List.getElem?_cons_zero, Option.map_some]
      have ma3 := ma2.only (Only.drew (Only.refl [] _)) (by simp) (by simp)
      have rr3 := rr2.only (Only.drew (Only.refl [] _)) (by simp) (by simp)
      have B3 := B2.drew
      clear ma2 rr2 B2
      generalize w2.drew = w2' at *
      iterate 5 ((with_reducible refine mix_move ?_ ?_); (focus rfl))
      ((with_reducible refine mix_free ?_ (v := ?_) (fun w' h' => ?_) ?_); (focus rfl); rotate_left; (focus (go_simp <;> with_reducible rfl)))
      ((with_reducible refine mix_free ?_ (v := ?_) (fun w' h' => ?_) ?_); (focus rfl); rotate_left; (focus (have c4 := HC4.out _ h'; go_simp <;> with_reducible rfl)))
      ((with_reducible refine mix_op ?_ ?_); (focus rfl); intro K hK; go_step; refine hK _ _ B3 ?_; clear hK K)
      have c5 := HC5.out _ B3
      ((with_reducible refine mix_op ?_ ?_); (focus rfl); intro K hK; go_step; refine hK _ _ B3 ?_; clear hK K)
      clear c5
      with_reducible refine mix_op ?_ ?_
      · rfl
      intro K hK
      go_step
      refine (rtick_walk pr n a1 a2 a3 y4 y5 sh ab be H T0 _ rr3 hn1 hn2 HEE.out.le HOK.out.2 HOK.out.1.1 HOK.out.1.2.1 HOK.out.1.2.2.1 HOK.out.1.2.2.2 hk1 hk2 HEE.out.a1 HEE.out.a2 HEE.out.b1 HEE.out.b2).mono ?_
      rw [HK.out.1]
      rintro e w3 ⟨rfl, T4, rr4, Ob, hT4'⟩
      have ma4 := ma3.only Ob (by simp; exact ⟨by omega, fun h => by have := hT _ h; omega⟩) (by simp; exact ⟨by omega, fun h => by have := hT _ h; omega⟩)
      have B4 : Below w.heap.size w w3 := B3.trans (Ob.below _ B3.size (by simp; exact ⟨by omega, fun k hk => by have := hT k hk; omega⟩))
      have hlp := RR.lt rr3
      have hT4 : ∀ k ∈ T4, pr < k := fun k hk => by
        rcases hT4' k hk with h | h
        · exact hT k h
        · omega
      have hE4 := HK.out.2
      clear ma3 rr3 Ob B3 hT4' hlp HK HOK HEE
      refine hK _ _ B4 ?_
      clear hK K
      ((with_reducible refine mix_op ?_ ?_); (focus rfl); intro K hK; go_step; refine hK _ _ B4 ?_; clear hK K)
      iterate 2 ((with_reducible refine mix_free ?_ (v := ?_) (fun w' h' => ?_) ?_); (focus rfl); rotate_left; (focus (go_simp <;> with_reducible rfl)))
      iterate 2 ((with_reducible refine mix_op ?_ ?_); (focus rfl); intro K hK; go_step; refine hK _ _ B4 ?_; clear hK K)
      refine mix_nil ?_
      generalize stTick a1 a2 a3 S (y4, y5) = T at *
      generalize ans a1 a2 a3 S (y4, y5) = A at *
      generalize rab _ ab a3 = ab4 at *
      generalize rbe _ be a3 = be4 at *
      generalize shareOf _ = sh4 at *
      generalize nextH n H (y4, y5) = H4 at *
      have mc := ma4
      have cs : w3.cell? ⟨pr, 0, none⟩ = some (.int .i64 T.sh) := by
        obtain ⟨a1', c1', a2', c2', h1, _⟩ := rr4
        have := cell_of h1 0
        rw [hE4.esh]
        simpa using this
      have HALL := Lib.hid (And.intro rr4 (And.intro hE4 (And.intro hT4 B4)))
      clear rr4 hE4 hT4 B4 ma4
      go_wp2_with fail
      refine wp_region_reads mixed (by kernel_rfl) ?_
      iterate 5 (refine wpStill_op rfl rfl (fun K hK => ?_); go_step; refine hK _ ?_; clear hK K)
      still_call (num_still _ _)
      iterate 5 (refine wpStill_op rfl rfl (fun K hK => ?_); go_step; refine hK _ ?_; clear hK K)
      have hshare : Calls Try.prog 16 #[.pointer (some ⟨pa, 0, none⟩)] w3.drew fun e w' => e = .returned (.int .i64 T.sh) ∧ w' = w3.drew := (share_st pa ra a1 a2 a3 T w3.drew (mc.only (Only.drew (Only.refl [] _)) (by simp) (by simp))).mono fun e w' h => ⟨h.1, h.2.symm⟩
      still_call hshare
      clear hshare
      repeat (refine wpStill_op rfl rfl (fun K hK => ?_); go_step; refine hK _ ?_; clear hK K)
      refine wpStill_nil ?_
      go_wp2_with fail
      go_roundw
      case rel => exact ⟨t + 1, T, H4, sh4, ab4, be4, T4, by omega, by omega, by omega, by go_num, mc.only (Only.drew (Only.refl [] _)) (by simp) (by simp), HALL.out.1.only (Only.drew (Only.refl [] _)) (by simp) (by simp), HALL.out.2.1, HALL.out.2.2.1, HALL.out.2.2.2.drew⟩
      case measure => simp [intOf]; omega
    · have HBAD := Lib.hid (show y4 < 0 ∨ 2147483647 < y4 ∨ y5 < 0 ∨ 2147483647 < y5 by unfold Ok at hok; simp at hok; omega)
      clear hok
      refine (mtick_bad ⟨pa, 0, none⟩ y4 y5 _ HBAD.out).mono ?_
      rintro e w' ⟨rfl, rfl⟩
      refine hK _ _ B1 ?_
      clear hK K
      ((with_reducible refine mix_op ?_ ?_); (focus rfl); intro K hK; go_step; refine hK _ _ B1 ?_; clear hK K)
      iterate 2 ((with_reducible refine mix_free ?_ (v := ?_) (fun w' h' => ?_) ?_); (focus rfl); rotate_left; (focus (go_simp <;> with_reducible rfl)))
      iterate 2 ((with_reducible refine mix_op ?_ ?_); (focus rfl); intro K hK; go_step; refine hK _ _ B1 ?_; clear hK K)
      refine mix_nil ?_
      go_wp2_with fail
      refine wp_region_mix (fun w' => Below w.heap.size w w') [(0, true), (1, true), (2, true), (5, true), (6, true), (3, true), (4, true), (7, false), (8, false), (9, false), (10, false), (11, true), (12, true), (13, false), (14, false)] mixed (by kernel_rfl) (fun d v c a w h => by cases d <;> exact h) (Below.drew B1) ?_
      simp only [List.filterMap_cons, List.filterMap_nil, List.getElem?_cons_succ, List.getElem?_cons_zero, Option.map_some]
      have ma4 := ma1.only (Only.drew (Only.refl [] _)) (by simp) (by simp)
      have rr4 := rr1.only (Only.drew (Only.refl [] _)) (by simp) (by simp)
      have B4 := B1.drew
      have hE4 := hE
      have hT4 := hT
      clear ma1 rr1 B1 hE hT
      generalize w1.drew = w3 at *
      iterate 5 ((with_reducible refine mix_move ?_ ?_); (focus rfl))
      ((with_reducible refine mix_free ?_ (v := ?_) (fun w' h' => ?_) ?_); (focus rfl); rotate_left; (focus (go_simp <;> with_reducible rfl)))
      ((with_reducible refine mix_free ?_ (v := ?_) (fun w' h' => ?_) ?_); (focus rfl); rotate_left; (focus (have c4 := HC4.out _ h'; go_simp <;> with_reducible rfl)))
      ((with_reducible refine mix_op ?_ ?_); (focus rfl); intro K hK; go_step; refine hK _ _ B4 ?_; clear hK K)
      have c5 := HC5.out _ B4
      ((with_reducible refine mix_op ?_ ?_); (focus rfl); intro K hK; go_step; refine hK _ _ B4 ?_; clear hK K)
      clear c5
      with_reducible refine mix_op ?_ ?_
      · rfl
      intro K hK
      go_step
      refine (rtick_bad ⟨pr, 0, none⟩ y4 y5 _ HBAD.out).mono ?_
      rintro e w' ⟨rfl, rfl⟩
      refine hK _ _ B4 ?_
      clear hK K
      ((with_reducible refine mix_op ?_ ?_); (focus rfl); intro K hK; go_step; refine hK _ _ B4 ?_; clear hK K)
      iterate 2 ((with_reducible refine mix_free ?_ (v := ?_) (fun w' h' => ?_) ?_); (focus rfl); rotate_left; (focus (go_simp <;> with_reducible rfl)))
      iterate 2 ((with_reducible refine mix_op ?_ ?_); (focus rfl); intro K hK; go_step; refine hK _ _ B4 ?_; clear hK K)
      refine mix_nil ?_
      clear HBAD
      obtain ⟨T, hT'⟩ : ∃ T, T = S := ⟨_, rfl⟩
      subst hT'
      obtain ⟨T4, H4, sh4, ab4, be4, rfl, rfl, rfl, rfl, rfl⟩ : ∃ a b c d e, a = T0 ∧ b = H ∧ c = sh ∧ d = ab ∧ e = be := ⟨_, _, _, _, _, rfl, rfl, rfl, rfl, rfl⟩
      have mc := ma4
      have cs : w3.cell? ⟨pr, 0, none⟩ = some (.int .i64 T.sh) := by
        obtain ⟨a1', c1', a2', c2', h1, _⟩ := rr4
        have := cell_of h1 0
        rw [hE4.esh]
        simpa using this
      have HALL := Lib.hid (And.intro rr4 (And.intro hE4 (And.intro hT4 B4)))
      clear rr4 hE4 hT4 B4 ma4
      go_wp2_with fail
      refine wp_region_reads mixed (by kernel_rfl) ?_
      iterate 5 (refine wpStill_op rfl rfl (fun K hK => ?_); go_step; refine hK _ ?_; clear hK K)
      still_call (num_still _ _)
      iterate 5 (refine wpStill_op rfl rfl (fun K hK => ?_); go_step; refine hK _ ?_; clear hK K)
      have hshare : Calls Try.prog 16 #[.pointer (some ⟨pa, 0, none⟩)] w3.drew fun e w' => e = .returned (.int .i64 T.sh) ∧ w' = w3.drew := (share_st pa ra a1 a2 a3 T w3.drew (mc.only (Only.drew (Only.refl [] _)) (by simp) (by simp))).mono fun e w' h => ⟨h.1, h.2.symm⟩
      still_call hshare
      clear hshare
      repeat (refine wpStill_op rfl rfl (fun K hK => ?_); go_step; refine hK _ ?_; clear hK K)
      refine wpStill_nil ?_
      go_wp2_with fail
      go_roundw
      case rel => exact ⟨t + 1, T, H4, sh4, ab4, be4, T4, by omega, by omega, by omega, by go_num, mc.only (Only.drew (Only.refl [] _)) (by simp) (by simp), HALL.out.1.only (Only.drew (Only.refl [] _)) (by simp) (by simp), HALL.out.2.1, HALL.out.2.2.1, HALL.out.2.2.2.drew⟩
      case measure => simp [intOf]; omega

/- The row's step. -/
set_option maxRecDepth 100000 in
theorem lifted (os : Os) (started : os.Started) (H : Type) (enc : TypeId × Value → H) :
    ReturnsInHanded {} Try.checked os 3 .any (Rows.metersSpec.pre6 enc Try.prog Try.f3 Rows.metersRow.domain false) (Rows.metersSpec.post enc Try.prog Try.f3 false true false false) := by
  refine returnsInHanded_of_change (C := Try.checked) own started (by kernel_rfl) Try.func3
    (ChangeSpec.witness6 (enc := enc) (C := Try.checked) false ⟨#[], #[.int .i64 0, .int .i64 0, .int .i64 0, .int .i64 0, .slice none 0 0, .slice none 0 0], []⟩ 8 (by kernel_rfl) (by kernel_rfl) (by kernel_rfl) (by kernel_rfl)) ?_
  intro W base args ds gs before hval0 hW hcnd _
  have hval : ∀ (j : Nat) t v, Try.f3.params[j]? = some t → args[j]? = some v → Value.okWide Try.prog W .any base t v := hval0
  have hW' := hW
  obtain ⟨p, q, hA0, hV, rfl, hfz, hnd⟩ := hW
  have hA : DataW.TrodAll enc Try.prog W 0 (fun _ => true) true Try.f3.params.toList args.toList ds p := hA0
  rw [Try.params3] at hA hval
  obtain ⟨v0, vs0, d0, ds0, p0, q0, hargs, rfl, rfl, h0, r0⟩ := trodAll_cons hA
  obtain ⟨v1, vs1, d1, ds1, p1, q1, rfl, rfl, rfl, h1, r1⟩ := trodAll_cons r0
  obtain ⟨v2, vs2, d2, ds2, p2, q2, rfl, rfl, rfl, h2, r2⟩ := trodAll_cons r1
  obtain ⟨v3, vs3, d3, ds3, p3, q3, rfl, rfl, rfl, h3, r3⟩ := trodAll_cons r2
  obtain ⟨v4, vs4, d4, ds4, p4, q4, rfl, rfl, rfl, h4, r4⟩ := trodAll_cons r3
  obtain ⟨v5, vs5, d5, ds5, p5, q5, rfl, rfl, rfl, h5, r5⟩ := trodAll_cons r4
  obtain ⟨rfl, rfl, rfl⟩ := trodAll_nil r5
  obtain rfl : args = #[v0, v1, v2, v3, v4, v5] := by cases args; simp_all
  obtain ⟨rfl, rfl⟩ := trodVars_none hV
  obtain ⟨a0, rfl, rfl, rfl, w0⟩ := open_int Try.underlying3 (hval 0 3 v0 rfl rfl) h0
  obtain ⟨a1, rfl, rfl, rfl, w1⟩ := open_int Try.underlying3 (hval 1 3 v1 rfl rfl) h1
  obtain ⟨a2, rfl, rfl, rfl, w2⟩ := open_int Try.underlying3 (hval 2 3 v2 rfl rfl) h2
  obtain ⟨a3, rfl, rfl, rfl, w3⟩ := open_int Try.underlying3 (hval 3 3 v3 rfl rfl) h3
  obtain ⟨a4, len4, cap4, rfl⟩ := okWide_slice Try.underlying22 (hval 4 22 v4 rfl rfl)
  have k4 := h4
  have lt4 : ∀ x ∈ p4, x.block < W.heap.size := by obtain ⟨m, hm⟩ := k4; exact DataW.trod_lt m _ _ _ hm
  obtain ⟨z4, w4⟩ : ∃ zs, IsRow .i64 W a4 len4 cap4 zs := by
    obtain ⟨fuel, hf⟩ := h4
    rcases open_ints Try.underlying22 Try.underlying3 (by kernel_rfl) hf with ⟨hcs, _⟩ | ⟨x, l, c, zs, hcs, _, hl, hm, hz, _, hcell, hwz⟩
    · simp [Value.cells] at hcs
      obtain ⟨rfl, rfl, rfl⟩ := hcs
      exact ⟨[], .inl ⟨rfl, rfl, rfl, rfl⟩⟩
    · simp [Value.cells] at hcs
      obtain ⟨rfl, rfl, rfl⟩ := hcs
      exact ⟨zs, .inr ⟨_, rfl, hl, hm, by simpa using hz, hcell, hwz⟩⟩
  obtain ⟨a5, len5, cap5, rfl⟩ := okWide_slice Try.underlying22 (hval 5 22 v5 rfl rfl)
  have k5 := h5
  have lt5 : ∀ x ∈ p5, x.block < W.heap.size := by obtain ⟨m, hm⟩ := k5; exact DataW.trod_lt m _ _ _ hm
  obtain ⟨z5, w5⟩ : ∃ zs, IsRow .i64 W a5 len5 cap5 zs := by
    obtain ⟨fuel, hf⟩ := h5
    rcases open_ints Try.underlying22 Try.underlying3 (by kernel_rfl) hf with ⟨hcs, _⟩ | ⟨x, l, c, zs, hcs, _, hl, hm, hz, _, hcell, hwz⟩
    · simp [Value.cells] at hcs
      obtain ⟨rfl, rfl, rfl⟩ := hcs
      exact ⟨[], .inl ⟨rfl, rfl, rfl, rfl⟩⟩
    · simp [Value.cells] at hcs
      obtain ⟨rfl, rfl, rfl⟩ := hcs
      exact ⟨zs, .inr ⟨_, rfl, hl, hm, by simpa using hz, hcell, hwz⟩⟩
  clear hA0 hval0
  refine (walk a0 a1 a2 a3 a4 len4 cap4 z4 a5 len5 cap5 z5 W w0 w1 w2 w3 w4 w5).mono fun e W' ⟨he, bel⟩ => ?_
  subst he
  exact ⟨_, rfl, _, _, _, [], _, [], hW', trodAll_mk1 (shut_bool Try.underlying4 _), (trodAll_cons_mk (shut_int Try.underlying3 w0) (trodAll_cons_mk (shut_int Try.underlying3 w1) (trodAll_cons_mk (shut_int Try.underlying3 w2) (trodAll_cons_mk (shut_int Try.underlying3 w3) (trodAll_cons_mk (Below.trod laidOut (by kernel_rfl) (of_decide_eq_true (by kernel_rfl)) k4 bel lt4) (trodAll_cons_mk (Below.trod laidOut (by kernel_rfl) (of_decide_eq_true (by kernel_rfl)) k5 bel lt5) trodAll_mk0)))))), rfl, bel.frame _, fun h => by cases h⟩

theorem over : Rows.metersRow.holds Try.pinned (OpenSpec.ofChange Rows.metersSpec) :=
  OpenClaim.holds_of_wide 3 Try.f3 rfl rfl rfl rfl rfl rfl rfl ⟨rfl, rfl, rfl, rfl, rfl⟩ rfl rfl rfl rfl rfl (by kernel_rfl) Try.func3 (by kernel_rfl)
    (of_decide_eq_true (by kernel_rfl)) (by unfold Func.isWrapper; first | (rw [if_pos (by decide +kernel)]; kernel_rfl) | (rw [if_neg (by decide +kernel)]; exact ⟨rfl, rfl⟩))
    (fun os started H enc _ => lifted os started H enc)

/-- The statement. -/
theorem proved : Rows.MetersSaid := over
#print axioms proved
end Go.Proofs.Ytpgjlkbjejlinaa.meters

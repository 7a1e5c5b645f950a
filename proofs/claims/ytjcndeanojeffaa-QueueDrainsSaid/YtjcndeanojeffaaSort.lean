/- The contract of slices.Sort at few ints that are all different. -/
import Derived.Test.YtjcndeanojeffaaFns3
import Derived.Lib.Strings
import Derived.Lib.Slices
import Derived.Lib.Small
import Derived.Lib.Walk
import Derived.Lib.BitFns
namespace Go.Proofs.Ytjcndeanojeffaa
namespace Plain
open Go
/-- the round of the insertion: x moved down by so many. -/
theorem ins_done {s : List Int} (hs : Up s) {x : Int} (hx : x ∉ s) {A B : List Int} (e : A ++ B = s) (hB : ∀ b ∈ B, x < b) (hA : ∀ a ∈ A.getLast?, ¬ x < a) : A ++ x :: B = insL s x := by
  subst e
  have hA' : ∀ a ∈ A, a < x := by
    intro a ha
    have hne : A ≠ [] := fun h => by rw [h] at ha; cases ha
    have hl := hA (A.getLast hne) (by rw [List.getLast?_eq_some_getLast hne]; rfl)
    have hxl : x ≠ A.getLast hne := fun h => hx (List.mem_append_left _ (by rw [h]; exact List.getLast_mem hne))
    have hle : a ≤ A.getLast hne := by
      have hup := (List.pairwise_append.1 hs).1
      rw [← List.dropLast_concat_getLast hne] at ha
      rcases List.mem_append.1 ha with h1 | h1
      · rw [← List.dropLast_concat_getLast hne] at hup
        have := (List.pairwise_append.1 hup).2.2 a h1 (A.getLast hne) (by simp)
        omega
      · have : a = A.getLast hne := by simpa using h1
        omega
    omega
  unfold insL
  rw [List.filter_append, List.filter_append]
  have f1 : A.filter (fun y => decide (y < x)) = A := List.filter_eq_self.2 (fun a ha => by simpa using hA' a ha)
  have f2 : B.filter (fun y => decide (y < x)) = [] := List.filter_eq_nil_iff.2 (fun b hb => by have := hB b hb; simp; omega)
  have f3 : A.filter (fun y => decide (x < y)) = [] := List.filter_eq_nil_iff.2 (fun a ha => by have := hA' a ha; simp; omega)
  have f4 : B.filter (fun y => decide (x < y)) = B := List.filter_eq_self.2 (fun b hb => by simpa using hB b hb)
  rw [f1, f2, f3, f4, List.append_nil, List.nil_append]
end Plain
open Go.RowKit
open Plain

/-- one cell of a slice is set. -/
theorem Sl.set1 {w : World} {e g off n cap : Nat} {xs : List Value} (h : Sl w e 1 (Option.some ⟨g, off, none⟩) n cap xs) (j : Nat) (_hj : j < n) (v : Value) : Sl (w.setCell ⟨g, off + j, none⟩ v) e 1 (Option.some ⟨g, off, none⟩) n cap (xs.set j v) := by
  refine ⟨by rw [List.length_set]; exact h.1, h.2.1, h.2.2.1, .inr ?_⟩
  rcases h.2.2.2 with ⟨h1, _⟩ | ⟨g', off', cur, h1, hg, hcs, htake⟩
  · cases h1
  · cases h1
    refine ⟨g, off, _, rfl, heap_setCell_same hg v, by rw [Array.size_setIfInBounds]; exact hcs, ?_⟩
    rw [Array.toList_setIfInBounds, List.drop_set, if_neg (by omega), show off + j - off = j by omega, List.take_set, htake]
theorem sl_frozen {w : World} {e size g off n cap : Nat} {xs : List Value} (h : Sl w e size (some ⟨g, off, none⟩) n cap xs) (o : Nat) : w.frozen? ⟨g, o, none⟩ = false := by
  rcases h.2.2.2 with ⟨h1, _⟩ | ⟨g', off', cur, h1, hg, _⟩
  · cases h1
  · cases h1
    exact frozen_of hg o
def ints (l : List Int) : List Value := l.map (Value.int .i64)
theorem ints_get (l : List Int) (i : Nat) (hi : i < l.length) : (ints l)[i]? = some (.int .i64 l[i]) := by simp [ints, hi]
theorem ints_set (l : List Int) (i : Nat) (v : Int) : (ints l).set i (.int .i64 v) = ints (l.set i v) := by simp [ints, List.map_set]

theorem nan43 (x : Int) (w : World) : Calls Try.prog 43 #[.int .i64 x] w fun e w' => e = .returned (.bool false) ∧ w = w' := by
  have h : (x != x) = false := by simp
  go_enter Try.func43, Try.ntmps43
  go_wp2
  go_ret
  exact ⟨by first | rfl | simp, rfl⟩
theorem less33 (x y : Int) (w : World) : Calls Try.prog 33 #[.int .i64 x, .int .i64 y] w fun e w' => e = .returned (.bool (decide (x < y))) ∧ w = w' := by
  go_enter Try.func33, Try.ntmps33
  go_wp2_with (go_at_call 43; refine (nan43 _ _).mono ?_; rintro e w' ⟨rfl, rfl⟩)
  go_ret
  exact ⟨rfl, rfl⟩
theorem less_still (x y : Int) (w : World) : Calls Try.prog 33 #[.int .i64 x, .int .i64 y] w fun e w' => e = .returned (.bool (decide (x < y))) ∧ w' = w := (less33 x y w).mono fun _ _ h => ⟨h.1, h.2.symm⟩
set_option maxHeartbeats 4000000 in
set_option maxRecDepth 100000 in
theorem len64_any (x : Int) (w : World) (h0 : 0 ≤ x) (h1 : x ≤ 8) : Calls Try.prog 37 #[.int .u64 x] w fun e w' => (∃ r, e = .returned (.int .i64 r)) ∧ w' = w := by
  have hsz : x < (Lib.len8tab.size : Int) := by
    have : Lib.len8tab.size = 256 := by decide +kernel
    omega
  have d1 : x < 4294967296 := by omega
  have d2 : x < 65536 := by omega
  have d3 : x < 256 := by omega
  go_enter Try.func37, Try.ntmps37
  go_wp2
  go_ret
  exact ⟨⟨_, rfl⟩, rfl⟩
theorem len_any26 (x : Int) (w : World) (h0 : 0 ≤ x) (h1 : x ≤ 8) : Calls Try.prog 26 #[.int .u64 x] w fun e w' => (∃ r, e = .returned (.int .i64 r)) ∧ w' = w := by
  go_enter Try.func26, Try.ntmps26
  go_wp2_with (go_at_call 37; refine (len64_any x _ h0 h1).mono ?_; rintro e w' ⟨⟨r, rfl⟩, rfl⟩)
  go_ret
  exact ⟨⟨_, rfl⟩, rfl⟩

theorem sort_take {l : List Int} {i : Nat} (hi : i < l.length) : sortL (l.take (i + 1)) = insL (sortL (l.take i)) l[i] := by
  unfold sortL
  rw [List.take_succ_eq_append_getElem hi, List.foldl_append]
  rfl
theorem up_sort_mem {l : List Int} (hnd : l.Nodup) {i : Nat} (hi : i < l.length) : l[i] ∉ sortL (l.take i) := by
  rw [mem_sortL]
  intro h
  have hnd2 : (l.take i ++ l[i] :: l.drop (i + 1)).Nodup := by rw [← List.drop_eq_getElem_cons hi, List.take_append_drop]; exact hnd
  exact (List.nodup_append.1 hnd2).2.2 _ h _ List.mem_cons_self rfl

set_option maxRecDepth 100000 in
set_option maxHeartbeats 4000000 in
theorem isort_any (l : List Int) (g off cap : Nat) (w : World) (hn : l.length ≤ 8) (hnd : l.Nodup) (h : Sl w 3 1 (some ⟨g, off, none⟩) l.length cap (ints l)) :
    Calls Try.prog 27 #[.slice (some ⟨g, off, none⟩) l.length cap, .int .i64 0, .int .i64 l.length] w fun e w' => e = .returned (.tuple #[]) ∧ Sl w' 3 1 (some ⟨g, off, none⟩) l.length cap (ints (sortL l)) ∧ Only [g] w w' := by
  have hnc := h.2.1
  go_enter Try.func27, Try.ntmps27
  go_wp2_with fail
  go_loopw [6] (fun a wr => ∃ i : Nat, a = .int .i64 i ∧ 1 ≤ i ∧ i ≤ l.length + 1 ∧ Sl wr 3 1 (some ⟨g, off, none⟩) l.length cap (ints (sortL (l.take i) ++ l.drop i)) ∧ Only [g] w wr) (fun a _ => l.length + 1 - (intOf a).toNat)
  case atStart =>
    refine ⟨1, rfl, by omega, by omega, ?_, Only.refl _ _⟩
    have e : sortL (l.take 1) ++ l.drop 1 = l := by cases l <;> rfl
    rw [e]
    exact h
  case round =>
    clear h
    obtain ⟨i, rfl, hi1, hi2, hs, ho⟩ := hrel
    by_cases hlt : i < l.length
    · have d0 : decide (i < l.length) = true := by simpa using hlt
      have hx := up_sort_mem hnd hlt
      have hup := sortL_up (l.take i)
      have hlen : (sortL (l.take i)).length = i := by rw [sortL_length (hnd.sublist (List.take_sublist _ _)), List.length_take]; omega
      have HST := Lib.hid (sort_take hlt)
      rw [List.drop_eq_getElem_cons hlt] at hs
      generalize l[i] = x at *
      generalize sortL (l.take i) = s at *
      have HX := Lib.hid (And.intro hx (And.intro hup hlen))
      clear hx hup
      have hD : (l.drop (i + 1)).length ≤ l.length - (i + 1) := by rw [List.length_drop]; omega
      have hD2 : l.length - (i + 1) ≤ (l.drop (i + 1)).length := by rw [List.length_drop]; omega
      generalize hDD : l.drop (i + 1) = D at *
      have HDD := Lib.hid hDD
      clear hDD
      have hinit : ∃ A B : List Int, i = A.length ∧ A ++ B = s ∧ (∀ b ∈ B, x < b) ∧ Sl wr 3 1 (some ⟨g, off, none⟩) l.length cap (ints (A ++ x :: B ++ D)) := ⟨s, [], hlen.symm, by simp, by simp, by simpa using hs⟩
      clear hlen hs
      go_wp2_with fail
      go_loopw [7] (fun a wy => ∃ (j : Nat) (A B : List Int), a = .int .i64 j ∧ j = A.length ∧ A ++ B = s ∧ (∀ b ∈ B, x < b) ∧ Sl wy 3 1 (some ⟨g, off, none⟩) l.length cap (ints (A ++ x :: B ++ D)) ∧ Only [g] w wy) (fun a _ => (intOf a).toNat)
      case atStart =>
        obtain ⟨A, B, a1, a2, a3, a4⟩ := hinit
        exact ⟨i, A, B, rfl, a1, a2, a3, a4, ho⟩
      case round =>
        clear hinit ho d0
        obtain ⟨j, A, B, rfl, hj, hAB, hB, hs, ho⟩ := hrel
        have hls : A.length + B.length = i := by have := HX.out.2.2; rw [← hAB, List.length_append] at this; exact this
        by_cases hA0 : A = []
        · have hj0 : decide (0 < j) = false := by rw [hj, hA0]; rfl
          have hres : A ++ x :: B = sortL (l.take (i + 1)) := by
            rw [HST.out]
            exact ins_done HX.out.2.1 HX.out.1 hAB hB (by rw [hA0]; simp)
          have HR := Lib.hid hres
          clear hres hA0 hAB hB hj
          go_wp2_with fail
          refine wp_region_reads mixed (by kernel_rfl) ?_
          iterate 4 ((with_reducible refine wpStill_op ?_ ?_ ?_); (focus kernel_rfl); (focus kernel_rfl); intro K hK; go_step; refine hK _ ?_; clear hK K)
          iterate 10 ((with_reducible refine wpStill_off ?_ ?_); (focus kernel_rfl))
          ((with_reducible refine wpStill_op ?_ ?_ ?_); (focus kernel_rfl); (focus kernel_rfl); intro K hK; go_step; refine hK _ ?_; clear hK K)
          refine wpStill_nil ?_
          go_wp2_with fail
          go_roundw
          case rel => exact ⟨i + 1, by go_num, by omega, by omega, by rw [← HR.out, HDD.out]; exact hs.only (Only.drew (Only.refl [] _)) (by simp), ho.drew⟩
          case measure => simp [intOf]; omega
        · obtain ⟨A', y, rfl⟩ : ∃ A' y, A = A' ++ [y] := ⟨A.dropLast, A.getLast hA0, (List.dropLast_concat_getLast hA0).symm⟩
          clear hA0
          rw [List.length_append] at hj hls
          simp only [List.length_cons, List.length_nil] at hj hls
          have hj0 : decide (0 < j) = true := by simp; omega
          have hjl : j < l.length := by omega
          have hgx : (ints (A' ++ [y] ++ x :: B ++ D))[j]? = some (.int .i64 x) := by
            rw [ints, List.getElem?_map, hj, List.append_assoc, List.getElem?_append_right (by simp)]
            simp
          have hgy : (ints (A' ++ [y] ++ x :: B ++ D))[j - 1]? = some (.int .i64 y) := by
            rw [ints, List.getElem?_map, hj, List.append_assoc, List.append_assoc, List.getElem?_append_right (by simp)]
            simp
          have cx := hs.cells _ _ hgx
          have cy := hs.cells _ _ hgy
          have HJ := Lib.hid hj
          have hj1 : 1 ≤ j := by omega
          clear hgx hgy hj
          go_wp2_with fail
          refine wp_region_reads mixed (by kernel_rfl) ?_
          iterate 13 ((with_reducible refine wpStill_op ?_ ?_ ?_); (focus kernel_rfl); (focus kernel_rfl); intro K hK; go_step; refine hK _ ?_; clear hK K)
          still_call (less_still x y _)
          ((with_reducible refine wpStill_op ?_ ?_ ?_); (focus kernel_rfl); (focus kernel_rfl); intro K hK; go_step; refine hK _ ?_; clear hK K)
          refine wpStill_nil ?_
          have hs1 := hs.only (Only.drew (Only.refl [] _)) (by simp)
          have ho1 := ho.drew
          have cx1 : wr.drew.cell? ⟨g, off + j, none⟩ = some (.int .i64 x) := cx
          have cy1 : wr.drew.cell? ⟨g, off + (j - 1), none⟩ = some (.int .i64 y) := cy
          clear hs ho cx cy
          generalize wr.drew = w1 at *
          by_cases hxy : x < y
          · have hd : decide (x < y) = true := by simpa using hxy
            rw [hd]
            have hsA := hs1.set1 j hjl (.int .i64 y)
            have hsB := hsA.set1 (j - 1) (by omega) (.int .i64 x)
            have e1 : ((ints (A' ++ [y] ++ x :: B ++ D)).set j (.int .i64 y)).set (j - 1) (.int .i64 x) = ints (A' ++ x :: (y :: B) ++ D) := by
              rw [ints_set, ints_set, HJ.out]
              congr 1
              simp
            rw [e1] at hsB
            have hgy : ((ints (A' ++ [y] ++ x :: B ++ D)).set j (.int .i64 y))[j - 1]? = some (.int .i64 y) := by
              rw [ints_set, ints, List.getElem?_map, HJ.out]
              simp
            have cy2 := hsA.cells _ _ hgy
            have fz1 := sl_frozen hs1 (off + j)
            have fz2 := sl_frozen hsA (off + (j - 1))
            have hoB : Only [g] w ((w1.setCell ⟨g, off + j, none⟩ (.int .i64 y)).setCell ⟨g, off + (j - 1), none⟩ (.int .i64 x)) := (ho1.setCell (.inl (by simp)) _).setCell (.inl (by simp)) _
            have HR := Lib.hid (And.intro hsB (And.intro hoB (And.intro hAB hB)))
            have HXY := Lib.hid hxy
            have hwr : IntKind.i64.wrap ((j : Int) - 1) = (j : Int) - 1 := IntWalk.i64_in _ (by omega)
            have hbd1 : 1 ≤ (j : Int) := by omega
            have hbd2 : (j : Int) - 1 < (l.length : Int) := by omega
            clear hsA hsB hs1 ho1 hoB e1 hgy hAB hB hxy
            go_wp2_with fail
            refine wp_region_part (fun _ => True) [(0, true), (1, true), (2, true), (3, true), (5, true), (6, true), (10, true), (11, true), (4, true), (7, true), (8, true), (12, true)] 6 #[true, true, true, true, true, true, true, true, true, false, true, true, true, false, false, false, false, false] mixed (by kernel_rfl) (fun d v c a w h => by cases d <;> exact h) trivial ?_
            simp only [List.filterMap_cons, List.filterMap_nil, List.getElem?_cons_succ, List.getElem?_cons_zero, Option.map_some]
            iterate 8 (refine mixR_move rfl ?_)
            iterate 4 (refine mixR_free rfl (v := ?_) (fun w' h' => ?_) ?_; rotate_left; (focus (go_simp <;> with_reducible rfl)))
            refine mixR_nil ?_
            intro _
            have cxd : w1.drew.cell? ⟨g, off + j, none⟩ = some (.int .i64 x) := cx1
            have cyd : w1.drew.cell? ⟨g, off + (j - 1), none⟩ = some (.int .i64 y) := cy1
            have HR2 := Lib.hid (show Sl ((w1.drew.setCell ⟨g, off + j, none⟩ (.int .i64 y)).setCell ⟨g, off + (j - 1), none⟩ (.int .i64 x)) 3 1 (some ⟨g, off, none⟩) l.length cap (ints (A' ++ x :: (y :: B) ++ D)) ∧ Only [g] w ((w1.drew.setCell ⟨g, off + j, none⟩ (.int .i64 y)).setCell ⟨g, off + (j - 1), none⟩ (.int .i64 x)) from ⟨HR.out.1, HR.out.2.1.1, HR.out.2.1.2, HR.out.2.1.3, HR.out.2.1.4, HR.out.2.1.5⟩)
            have cyd2 : (w1.drew.setCell ⟨g, off + j, none⟩ (.int .i64 y)).cell? ⟨g, off + (j - 1), none⟩ = some (.int .i64 y) := cy2
            have fzd1 : w1.drew.frozen? ⟨g, off + j, none⟩ = false := fz1
            have fzd2 : (w1.drew.setCell ⟨g, off + j, none⟩ (.int .i64 y)).frozen? ⟨g, off + (j - 1), none⟩ = false := fz2
            clear cx1 cy1 cy2 fz1 fz2
            generalize w1.drew = w2 at *
            refine anyH_two 9 13 _ _ (by kernel_rfl) rfl rfl rfl rfl (fun K hK => ?_) (fun K hK => ?_)
            focus
              go_step
              refine hK _ _ trivial ?_
              clear hK K
              refine anyH_mix [(13, false), (14, false), (15, false), (16, false), (17, false)] (by kernel_rfl) (by kernel_rfl) (fun d v c a w h => by cases d <;> exact h) trivial ?_
              simp only [mixOps, List.filterMap_cons, List.filterMap_nil, List.getElem?_toArray, List.getElem?_cons_succ, List.getElem?_cons_zero, Option.map_some]
              iterate 5 ((with_reducible refine mix_op ?_ ?_); (focus rfl); intro K hK; go_step; refine hK _ _ trivial ?_; clear hK K)
              refine mix_nil ?_
            rotate_left
            focus
              go_step
              refine hK _ _ trivial ?_
              clear hK K
              refine anyH_mix [(9, false), (14, false), (15, false), (16, false), (17, false)] (by kernel_rfl) (by kernel_rfl) (fun d v c a w h => by cases d <;> exact h) trivial ?_
              simp only [mixOps, List.filterMap_cons, List.filterMap_nil, List.getElem?_toArray, List.getElem?_cons_succ, List.getElem?_cons_zero, Option.map_some]
              iterate 5 ((with_reducible refine mix_op ?_ ?_); (focus rfl); intro K hK; go_step; refine hK _ _ trivial ?_; clear hK K)
              refine mix_nil ?_
            all_goals
              go_wp2_with fail
              go_roundw
              case rel => exact ⟨j - 1, A', y :: B, by have := HJ.out; go_num, by have := HJ.out; omega, by rw [← HR.out.2.2.1]; simp, fun b hb => by
                rcases List.mem_cons.1 hb with rfl | hb
                · exact HXY.out
                · exact HR.out.2.2.2 b hb, HR2.out.1, HR2.out.2⟩
              case measure => simp [intOf]; omega
          · have hd : decide (x < y) = false := by simpa using hxy
            rw [hd]
            have hres : A' ++ [y] ++ x :: B = sortL (l.take (i + 1)) := by
              rw [HST.out]
              exact ins_done HX.out.2.1 HX.out.1 hAB hB (by simpa using hxy)
            have HR := Lib.hid hres
            clear hres hAB hB hxy
            go_wp2_with fail
            go_roundw
            case rel => exact ⟨i + 1, by go_num, by omega, by omega, by rw [← HR.out, HDD.out]; exact hs1, ho1⟩
            case measure => simp [intOf]; omega
    · have d0 : decide (i < l.length) = false := by simpa using hlt
      have e : sortL (l.take i) ++ l.drop i = sortL l := by rw [List.take_of_length_le (by omega), List.drop_eq_nil_of_le (by omega), List.append_nil]
      rw [e] at hs
      have HR := Lib.hid (And.intro hs ho)
      clear hs ho e
      go_wp2_with fail
      go_end0
      exact ⟨rfl, HR.out⟩

set_option maxRecDepth 100000 in
set_option maxHeartbeats 2000000 in
theorem pdq_any (l : List Int) (g off cap : Nat) (r : Int) (w : World) (hn : l.length ≤ 8) (hnd : l.Nodup) (h : Sl w 3 1 (some ⟨g, off, none⟩) l.length cap (ints l)) :
    Calls Try.prog 25 #[.slice (some ⟨g, off, none⟩) l.length cap, .int .i64 0, .int .i64 l.length, .int .i64 r] w fun e w' => e = .returned (.tuple #[]) ∧ Sl w' 3 1 (some ⟨g, off, none⟩) l.length cap (ints (sortL l)) ∧ Only [g] w w' := by
  have HI := Lib.hid (isort_any l g off cap w hn hnd h)
  clear h hnd
  go_enter Try.func25, Try.ntmps25
  go_wp2_with fail
  go_loopw [1, 2, 3, 8, 9] (fun a b c d e wr => a = .int .i64 0 ∧ b = .int .i64 l.length ∧ c = .int .i64 r ∧ d = .bool true ∧ e = .bool true ∧ wr = w) (fun _ _ _ _ _ _ => 0)
  case atStart => exact ⟨rfl, rfl, rfl, rfl, rfl, rfl⟩
  case round =>
    obtain ⟨rfl, rfl, rfl, rfl, rfl, rfl⟩ := hrel
    have d0 : decide ((l.length : Int) ≤ 12) = true := by simp; omega
    go_wp2_with fail
    refine HI.out.mono ?_
    rintro e w2 ⟨rfl, hs, ho⟩
    have HR := Lib.hid (And.intro hs ho)
    clear HI hs ho
    go_wp2_with fail
    ((try simp only [Exit.inBlock, Exit.then]); refine bodyPost_ret (results_none rfl _ _ _) rfl ?_)
    exact ⟨rfl, HR.out⟩
set_option maxRecDepth 100000 in
set_option maxHeartbeats 2000000 in
theorem sort_any (l : List Int) (g off cap : Nat) (w : World) (hn : l.length ≤ 8) (hnd : l.Nodup) (h : Sl w 3 1 (some ⟨g, off, none⟩) l.length cap (ints l)) :
    Calls Try.prog 23 #[.slice (some ⟨g, off, none⟩) l.length cap] w fun e w' => e = .returned (.tuple #[]) ∧ Sl w' 3 1 (some ⟨g, off, none⟩) l.length cap (ints (sortL l)) ∧ Only [g] w w' := by
  have HI := Lib.hid (fun r => pdq_any l g off cap r w hn hnd h)
  clear h hnd
  go_enter Try.func23, Try.ntmps23
  go_wp2_with (first | (go_at_call 26; refine (len_any26 _ _ (by omega) (by omega)).mono ?_; rintro e w' ⟨⟨r, rfl⟩, rfl⟩) | (go_at_call 25; refine (HI.out _).mono ?_; rintro e w2 ⟨rfl, hs, ho⟩))
  go_end0
  exact ⟨rfl, hs, ho⟩
/-- of nothing. -/
theorem sort_nil (w : World) : Calls Try.prog 23 #[.slice none 0 0] w fun e w' => e = .returned (.tuple #[]) ∧ Only [] w w' := by
  have hi : ∀ w : World, Calls Try.prog 27 #[.slice none 0 0, .int .i64 0, .int .i64 0] w fun e w' => e = .returned (.tuple #[]) ∧ w = w' := by
    intro w
    go_enter Try.func27, Try.ntmps27
    go_wp2_with fail
    go_loop [6] (fun a => a = .int .i64 1) (fun _ => 0)
    case atStart => rfl
    case round =>
      obtain rfl := hrel
      go_wp2_with fail
      go_end0
      exact ⟨rfl, rfl⟩
  have hp : ∀ (r : Int) (w : World), Calls Try.prog 25 #[.slice none 0 0, .int .i64 0, .int .i64 0, .int .i64 r] w fun e w' => e = .returned (.tuple #[]) ∧ w = w' := by
    intro r w
    go_enter Try.func25, Try.ntmps25
    go_wp2_with fail
    go_loopw [1, 2, 3, 8, 9] (fun a b c d e wr => a = .int .i64 0 ∧ b = .int .i64 0 ∧ c = .int .i64 r ∧ d = .bool true ∧ e = .bool true ∧ wr = w) (fun _ _ _ _ _ _ => 0)
    case atStart => exact ⟨rfl, rfl, rfl, rfl, rfl, rfl⟩
    case round =>
      obtain ⟨rfl, rfl, rfl, rfl, rfl, rfl⟩ := hrel
      go_wp2_with (go_at_call 27; refine (hi _).mono ?_; rintro e w' ⟨rfl, rfl⟩)
      ((try simp only [Exit.inBlock, Exit.then]); refine bodyPost_ret (results_none rfl _ _ _) rfl ?_)
      exact ⟨rfl, rfl⟩
  go_enter Try.func23, Try.ntmps23
  go_wp2_with (first | (go_at_call 26; refine (len_any26 _ _ (by omega) (by omega)).mono ?_; rintro e w' ⟨⟨r, rfl⟩, rfl⟩) | (go_at_call 25; refine (hp _ _).mono ?_; rintro e w2 ⟨rfl, rfl⟩))
  go_end0
  exact ⟨rfl, Only.refl _ _⟩
end Go.Proofs.Ytjcndeanojeffaa

/- Proved here: withylaw19.JoinActs returns true for every input and leaves its arguments as they were (the given statement Rows.JoinActsSaid). Conditions: none. -/
import Derived.Test.YtcfgbfabokhjcaaRows
import Derived.Test.YtcfgbfabokhjcaaActs2
import Derived.Test.YtcfgbfabokhjcaaMask
import Derived.Lib.Hide
import Derived.Deep.Cut
import Derived.StillTactics
import Derived.WalkKit
import Derived.SizedLaws
import Derived.ProofKit
import Derived.OpenShut
import Derived.ShutString
import Derived.ChangeOld
import Derived.Below
namespace Go.Proofs.Ytcfgbfabokhjcaa.joinActs
open Go.ChangeShapes Go.WideShapes Go.ChangeAt Go.RowKit
open Plain
open Go.ChangeMaps (open_string shut_string)
set_option linter.unusedVariables false

theorem own : ownKnob Try.prog.godebug = none := by kernel_rfl
theorem laidOut : laidOutB Try.prog = true := by kernel_rfl

/- The walk: the law's text returns true. -/
set_option maxRecDepth 100000 in
set_option maxHeartbeats 2000000 in
theorem walk (a0 : Bool) (a1 : Int) (w1 : (Lit.int .i64 a1).wf = true) (a2 : Option Addr) (len2 cap2 : Nat) (w : World) (w2 : ActRow w a2 len2) :
    Calls Try.prog 3 #[.bool a0, .int .i64 a1, .slice a2 len2 cap2] w fun e w' => e = .returned (.bool true) ∧ Below w.heap.size w w' := by
  by_cases hm : a1 < 1 ∨ 128 < a1
  · clear w1 w2
    have HN := Lib.hid (new_bad a0 a1 w hm)
    have HR := Lib.hid (rnew_bad a0 a1 w hm)
    clear hm
    go_enter Try.func3, Try.ntmps3
    go_wp2_with fail
    refine HN.out.mono ?_
    rintro e w' ⟨rfl, rfl⟩
    go_wp2_with fail
    refine HR.out.mono ?_
    rintro e w' ⟨rfl, rfl⟩
    clear HN HR
    have HA := Lib.hid (awake_any w)
    go_wp2_with (first | (go_at_call 14; refine (num_any _ _).mono ?_; rintro e w' ⟨rfl, rfl⟩) | (go_at_call 15; refine HA.out.mono ?_; rintro e w' ⟨rfl, o9⟩; (have HO := Lib.hid o9); clear o9))
    go_ret
    exact ⟨by first | rfl | simp, HO.out.below _ (Nat.le_refl _) (by simp)⟩
  · skip
    obtain ⟨hm0, hm1⟩ : 1 ≤ a1 ∧ a1 ≤ 128 := by omega
    have hlen := act_len w2
    clear hm w1
    go_enter Try.func3, Try.ntmps3
    go_wp2_with fail
    refine (new_good a0 a1 w hm0 hm1).mono ?_
    rintro e wa ⟨p, bl, bh, rfl, h0, o0, n1, n2, n3⟩
    go_wp2_with fail
    refine (rnew_good a0 a1 wa hm0 hm1).mono ?_
    rintro e wb ⟨m, rfl, r0, o1, hft⟩
    have hB : Both w p bl bh m.r 0 (J.new a0 a1) (J.new a0 a1) m wb := by
      have hl := h0.lt
      have hsz := o0.size
      exact ⟨h0.only o1 (by simp) (by simp) (by simp), r0, rfl, Plain.Twin.refl _, by show ((0 : Nat) : Int) ≤ a1; omega, by show (0 : Int) + ((0 : Nat) : Int) ≤ ((0 : Nat) : Int); omega, ⟨n1, n2, n3⟩, fun k hk => by have := hft k hk; exact ⟨by omega, by omega, by omega, by omega⟩, (o0.trans o1).below _ (Nat.le_refl _) (by simp)⟩
    have HB0 := Lib.hid hB
    clear h0 o0 n1 n2 n3 r0 o1 hft hB
    generalize J.new a0 a1 = S0 at *
    obtain ⟨r, hr⟩ : ∃ r, r = m.r := ⟨_, rfl⟩
    rw [← hr] at HB0 ⊢
    clear hr
    go_wp2_with (go_at_call 14; refine (num_any _ _).mono ?_; rintro e w' ⟨rfl, rfl⟩)
    go_loopw [11] (fun i wr => ∃ (t : Nat) (S T : J) (m : RM), i = .int .i64 t ∧ t ≤ 200 ∧ t ≤ len2 ∧ Both w p bl bh r t S T m wr) (fun i _ => 200 - (intOf i).toNat)
    case atStart => exact ⟨0, S0, S0, m, rfl, by omega, by omega, HB0.out⟩
    case round =>
      clear HB0
      obtain ⟨t, S, T, m, rfl, ht, htl, hB⟩ := hrel
      by_cases hlt : t < len2 ∧ t < 200
      · obtain ⟨hl1, hl2⟩ := hlt
        have d1 : decide (t < len2) = true := by simpa using hl1
        have d2 : decide ((t : Int) < 200) = true := by simp; omega
        obtain ⟨b0, off0, kd, ln, f, rfl, c0, c1, c2, c3, c4, c5, l0, l1⟩ := act_at w2 hB.below t hl1
        have HB := Lib.hid hB
        clear hB
        go_upto_region 11 with fail
        have hB1 := HB.out.quiet ((Only.refl [] wr).alloc (.cells #[.int .i64 kd, .int .i64 ln, .bool f.b, .bool f.e, .int .i64 f.q, .string f.d] 35 (0, 0)))
        have hx := heap_alloc_new' wr (.cells #[.int .i64 kd, .int .i64 ln, .bool f.b, .bool f.e, .int .i64 f.q, .string f.d] 35 (0, 0))
        have hNB : wr.heap.size ≠ p ∧ wr.heap.size ≠ bl ∧ wr.heap.size ≠ bh := by have := HB.out.pj.lt; omega
        have hNF : ∀ k ∈ m.foot, k ≠ wr.heap.size := fun k hk e => by have := HB.out.rj.lt hk; omega
        clear HB c0 c1 c2 c3 c4 c5
        generalize wr.alloc (.cells #[.int .i64 kd, .int .i64 ln, .bool f.b, .bool f.e, .int .i64 f.q, .string f.d] 35 (0, 0)) = w1 at *
        generalize wr.heap.size = B at *
        have HB1 := Lib.hid hB1
        clear hB1
        have x0 := cell_of hx 0
        have x1 := cell_of hx 1
        have x2 := cell_of hx 2
        have x3 := cell_of hx 3
        have x4 := cell_of hx 4
        have x5 := cell_of hx 5
        simp only [List.getElem?_toArray, List.getElem?_cons_succ, List.getElem?_cons_zero] at x0 x1 x2 x3 x4 x5
        by_cases hk0 : kd = 0
        · have dk : (kd == 0) = true := by simpa using hk0
          clear hk0
          have hadd := add_any p bl bh S ln w1 HB1.out.pj l0 l1
          go_wp2_with fail
          refine hadd.mono ?_
          rintro e w2 ⟨rfl, h2, o2⟩
          have o2' : Only [p, bl, bh] w1 w2 := o2.mono (by simp)
          have h3 := h2.drew
          have r3 := (HB1.out.prog h2 o2').drew
          have o3 := o2'.drew
          have hx2 := o2.at hx (by simpa using hNB.2.1)
          clear h2 o2 o2' hx
          go_upto_region 18 with fail
          refine wp_region_mix (fun w' => w'.heap[B]? = some (.cells #[.int .i64 kd, .int .i64 ln, .bool f.b, .bool f.e, .int .i64 f.q, .string f.d] 35 (0, 0))) [(0, true), (2, true), (3, true), (4, true), (1, false), (5, false), (6, false)] mixed (by kernel_rfl) (fun d v c a w h => by cases d <;> exact h) hx2 ?_
          simp only [List.filterMap_cons, List.filterMap_nil, List.getElem?_cons_succ, List.getElem?_cons_zero, Option.map_some]
          have hx3 : w2.drew.heap[B]? = some (.cells #[.int .i64 kd, .int .i64 ln, .bool f.b, .bool f.e, .int .i64 f.q, .string f.d] 35 (0, 0)) := hx2
          clear hx2
          generalize w2.drew = w3 at *
          iterate 2 ((with_reducible refine mix_move ?_ ?_); (focus rfl))
          iterate 2 ((with_reducible refine mix_free ?_ (v := ?_) (fun w' h' => ?_) ?_); (focus rfl); rotate_left; (focus (have x1 := cell_of h' 1; simp only [List.getElem?_toArray, List.getElem?_cons_succ, List.getElem?_cons_zero] at x1; go_simp <;> with_reducible rfl)))
          with_reducible refine mix_op ?_ ?_
          · rfl
          intro K hK
          go_step
          refine (num_any _ _).mono ?_
          rintro e w' ⟨rfl, rfl⟩
          refine hK _ _ hx3 ?_
          clear hK K
          with_reducible refine mix_op ?_ ?_
          · rfl
          intro K hK
          go_step
          have hcall := radd_any m T ln w3 r3 l0 l1
          rw [(HB1.out.tw.add ln).1] at hcall
          rw [HB1.out.hr] at hcall
          refine hcall.mono ?_
          rintro e w4 ⟨m2, L, rfl, hL0, hL1, h4, s4⟩
          have hx4 := s4.only.at hx3 (fun hm => hNF B hm rfl)
          have hB := HB1.out.add ln h3 o3 hL0 hL1 h4 s4
          refine hK _ _ hx4 ?_
          clear hK K hcall h3 r3 o3 h4 s4 HB1
          have ne : ((addE S ln) != (addE S ln)) = false := by simp
          ((with_reducible refine mix_op ?_ ?_); (focus rfl); intro K hK; go_step; refine hK _ _ hx4 ?_; clear hK K)
          refine mix_nil ?_
          clear hx3 hx4 hNF hNB
          clear hL0 hL1 hadd x0 x1 x2 x3 x4 x5
          have hsame := hB.tw.same
          have hBd := hB.quiet (Only.drew (Only.refl [] _))
          have hh := held_still _ _ _ _ _ hBd.pj
          have hl := lost_still _ _ _ _ _ hBd.pj
          have hrh := rheld_still _ _ _ hBd.rj
          have hr5 := hBd.rj.c5
          rw [hBd.hr] at hrh hr5
          rw [hsame.1] at hrh
          rw [hsame.2] at hr5
          have HBn := Lib.hid hBd
          clear hB hBd hsame
          go_upto_region 24 with fail
          refine wp_region_reads mixed (by kernel_rfl) ?_
          generalize w4.drew = wz at *
          generalize hhl : J.held (addS S ln) = hel at *
          generalize hll : J.lost (addS S ln) = los at *
          have HHl := Lib.hid (And.intro hhl hll)
          clear hhl hll
          have n1 : ((hel.length : Int) != (hel.length : Int)) = false := by simp
          have n2 : (los != los) = false := by simp
          iterate 1 ((with_reducible refine wpStill_op ?_ ?_ ?_); (focus kernel_rfl); (focus kernel_rfl); intro K hK; go_step; refine hK _ ?_; clear hK K)
          still_call hh
          iterate 1 ((with_reducible refine wpStill_op ?_ ?_ ?_); (focus kernel_rfl); (focus kernel_rfl); intro K hK; go_step; refine hK _ ?_; clear hK K)
          still_call hrh
          iterate 3 ((with_reducible refine wpStill_op ?_ ?_ ?_); (focus kernel_rfl); (focus kernel_rfl); intro K hK; go_step; refine hK _ ?_; clear hK K)
          still_call hl
          iterate 6 ((with_reducible refine wpStill_op ?_ ?_ ?_); (focus kernel_rfl); (focus kernel_rfl); intro K hK; go_step; refine hK _ ?_; clear hK K)
          refine wpStill_nil ?_
          clear hr5
          go_wp2_with fail
          go_roundw
          case rel => exact ⟨t + 1, _, _, _, by go_num, by omega, by omega, HBn.out⟩
          case measure => simp [intOf]; omega
        · have dk : (kd == 0) = false := by simpa using hk0
          clear hk0
          by_cases hk1 : kd = 1
          · have dk1 : (kd == 1) = true := by simpa using hk1
            clear hk1
            have hdrop := drop_any p bl bh S ln w1 HB1.out.pj l0 l1
            go_wp2_with fail
            refine hdrop.mono ?_
            rintro e w2 ⟨rfl, h2, o2⟩
            have o2' : Only [p, bl, bh] w1 w2 := o2.mono (by simp)
            have h3 := h2.drew
            have r3 := (HB1.out.prog h2 o2').drew
            have o3 := o2'.drew
            have hx2 := o2.at hx (by simpa using hNB.2.1)
            clear h2 o2 o2' hx
            go_upto_region 22 with fail
            refine wp_region_mix (fun w' => w'.heap[B]? = some (.cells #[.int .i64 kd, .int .i64 ln, .bool f.b, .bool f.e, .int .i64 f.q, .string f.d] 35 (0, 0))) [(0, true), (2, true), (3, true), (4, true), (1, false), (5, false), (6, false)] mixed (by kernel_rfl) (fun d v c a w h => by cases d <;> exact h) hx2 ?_
            simp only [List.filterMap_cons, List.filterMap_nil, List.getElem?_cons_succ, List.getElem?_cons_zero, Option.map_some]
            have hx3 : w2.drew.heap[B]? = some (.cells #[.int .i64 kd, .int .i64 ln, .bool f.b, .bool f.e, .int .i64 f.q, .string f.d] 35 (0, 0)) := hx2
            clear hx2
            generalize w2.drew = w3 at *
            iterate 2 ((with_reducible refine mix_move ?_ ?_); (focus rfl))
            iterate 2 ((with_reducible refine mix_free ?_ (v := ?_) (fun w' h' => ?_) ?_); (focus rfl); rotate_left; (focus (have x1 := cell_of h' 1; simp only [List.getElem?_toArray, List.getElem?_cons_succ, List.getElem?_cons_zero] at x1; go_simp <;> with_reducible rfl)))
            with_reducible refine mix_op ?_ ?_
            · rfl
            intro K hK
            go_step
            refine (num_any _ _).mono ?_
            rintro e w' ⟨rfl, rfl⟩
            refine hK _ _ hx3 ?_
            clear hK K
            with_reducible refine mix_op ?_ ?_
            · rfl
            intro K hK
            go_step
            have hcall := rdrop_any m T ln w3 r3
            rw [(HB1.out.tw.drop ln).1] at hcall
            rw [HB1.out.hr] at hcall
            refine hcall.mono ?_
            rintro e w4 ⟨m2, rfl, h4, s4⟩
            have hx4 := s4.only.at hx3 (fun hm => hNF B hm rfl)
            have hB := HB1.out.drop ln h3 o3 h4 s4
            refine hK _ _ hx4 ?_
            clear hK K hcall h3 r3 o3 h4 s4 HB1
            have ne : ((dropE S ln) != (dropE S ln)) = false := by simp
            ((with_reducible refine mix_op ?_ ?_); (focus rfl); intro K hK; go_step; refine hK _ _ hx4 ?_; clear hK K)
            refine mix_nil ?_
            clear hx3 hx4 hNF hNB
            clear hdrop x0 x1 x2 x3 x4 x5
            have hsame := hB.tw.same
            have hBd := hB.quiet (Only.drew (Only.refl [] _))
            have hh := held_still _ _ _ _ _ hBd.pj
            have hl := lost_still _ _ _ _ _ hBd.pj
            have hrh := rheld_still _ _ _ hBd.rj
            have hr5 := hBd.rj.c5
            rw [hBd.hr] at hrh hr5
            rw [hsame.1] at hrh
            rw [hsame.2] at hr5
            have HBn := Lib.hid hBd
            clear hB hBd hsame
            go_upto_region 24 with fail
            refine wp_region_reads mixed (by kernel_rfl) ?_
            generalize w4.drew = wz at *
            generalize hhl : J.held (dropS S ln) = hel at *
            generalize hll : J.lost (dropS S ln) = los at *
            have HHl := Lib.hid (And.intro hhl hll)
            clear hhl hll
            have n1 : ((hel.length : Int) != (hel.length : Int)) = false := by simp
            have n2 : (los != los) = false := by simp
            iterate 1 ((with_reducible refine wpStill_op ?_ ?_ ?_); (focus kernel_rfl); (focus kernel_rfl); intro K hK; go_step; refine hK _ ?_; clear hK K)
            still_call hh
            iterate 1 ((with_reducible refine wpStill_op ?_ ?_ ?_); (focus kernel_rfl); (focus kernel_rfl); intro K hK; go_step; refine hK _ ?_; clear hK K)
            still_call hrh
            iterate 3 ((with_reducible refine wpStill_op ?_ ?_ ?_); (focus kernel_rfl); (focus kernel_rfl); intro K hK; go_step; refine hK _ ?_; clear hK K)
            still_call hl
            iterate 6 ((with_reducible refine wpStill_op ?_ ?_ ?_); (focus kernel_rfl); (focus kernel_rfl); intro K hK; go_step; refine hK _ ?_; clear hK K)
            refine wpStill_nil ?_
            clear hr5
            go_wp2_with fail
            go_roundw
            case rel => exact ⟨t + 1, _, _, _, by go_num, by omega, by omega, HBn.out⟩
            case measure => simp [intOf]; omega
          · have dk1 : (kd == 1) = false := by simpa using hk1
            clear hk1
            have hcc : S.held.length ≤ 128 := by have := HB1.out.few; have := HB1.out.pj.ok.most1; omega
            have hcl : S.lost + S.held.length < 1099511627776 := by have := HB1.out.sum; omega
            have hput := put_any p bl bh S ln f w1 HB1.out.pj l0 l1 hcc hcl
            obtain ⟨t1, t2, _⟩ := HB1.out.tw.put HB1.out.pj.ok hcc hcl ln f
            have HT := Lib.hid (And.intro t1 t2)
            clear t1 t2
            go_wp2_with fail
            refine hput.mono ?_
            rintro e w2 ⟨ao1, cap1, rfl, sl1, fr1, h2, o2, hn1⟩
            have r2 := HB1.out.prog h2 o2
            have hx2 := o2.at hx (by simp; exact hNB)
            have hsm := HB1.out.tw.same
            have hrp := rput_any m T ln f w2 r2 (by rw [hsm.1]; exact hcc) (by rw [hsm.1, hsm.2]; exact hcl)
            unfold RPutPost at hrp
            rw [HT.out.1, HT.out.2, HB1.out.hr] at hrp
            clear hput x0 x1 x2 x3 x4 x5 hx hsm
            have x1 := cell_of hx2 1
            have x2 := cell_of hx2 2
            have x3 := cell_of hx2 3
            have x4 := cell_of hx2 4
            have x5 := cell_of hx2 5
            simp only [List.getElem?_toArray, List.getElem?_cons_succ, List.getElem?_cons_zero] at x1 x2 x3 x4 x5
            have HRp := Lib.hid hrp
            have HSl1 := Lib.hid (And.intro sl1 fr1)
            clear hrp sl1 fr1
            go_wp2_with fail
            refine HRp.out.mono ?_
            rintro e w3 ⟨m2, ao2, cap2, rfl, sl2, h3, s3⟩
            have hB3 := HB1.out.put (by omega) ln f h2 o2 h3 s3
            have sl1' := HSl1.out.1.only s3.only (fun k hk hm => by have h1 := HSl1.out.2 k hk; have h2 := HB1.out.rj.lt hm; omega)
            have hst := same_texts ao1 ao2 (putO S ln f).length cap1 cap2 (putO S ln f) w3 rfl (by omega) sl1' sl2
            have HB3 := Lib.hid hB3
            have HSt := Lib.hid hst
            clear sl2 sl1' h3 s3 hB3 hst HSl1 HRp h2 o2 r2 HB1 x1 x2 x3 x4 x5 hx2 hNF hNB HT
            generalize (putO S ln f).length = no at *
            generalize putE S ln f = pe at *
            have ne : (pe != pe) = false := by simp
            go_upto_region 14 with fail
            go_wp2_with (first | (go_at_call 14; refine (num_any _ _).mono ?_; rintro e w' ⟨rfl, rfl⟩) | (go_at_call 22; refine HSt.out.mono ?_; rintro e w4 ⟨rfl, o4⟩; (have hB := HB3.out.quiet o4); (have HB4 := Lib.hid hB); clear hB o4))
            have hB := HB4.out
            clear HB4 HB3 HSt
            have hsame := hB.tw.same
            have hBd := hB.quiet (Only.drew (Only.refl [] _))
            have hh := held_still _ _ _ _ _ hBd.pj
            have hl := lost_still _ _ _ _ _ hBd.pj
            have hrh := rheld_still _ _ _ hBd.rj
            have hr5 := hBd.rj.c5
            rw [hBd.hr] at hrh hr5
            rw [hsame.1] at hrh
            rw [hsame.2] at hr5
            have HBn := Lib.hid hBd
            clear hB hBd hsame
            refine wp_region_reads mixed (by kernel_rfl) ?_
            generalize w4.drew = wz at *
            generalize hhl : J.held (putS S ln f) = hel at *
            generalize hll : J.lost (putS S ln f) = los at *
            have HHl := Lib.hid (And.intro hhl hll)
            clear hhl hll
            have n1 : ((hel.length : Int) != (hel.length : Int)) = false := by simp
            have n2 : (los != los) = false := by simp
            iterate 1 ((with_reducible refine wpStill_op ?_ ?_ ?_); (focus kernel_rfl); (focus kernel_rfl); intro K hK; go_step; refine hK _ ?_; clear hK K)
            still_call hh
            iterate 1 ((with_reducible refine wpStill_op ?_ ?_ ?_); (focus kernel_rfl); (focus kernel_rfl); intro K hK; go_step; refine hK _ ?_; clear hK K)
            still_call hrh
            iterate 3 ((with_reducible refine wpStill_op ?_ ?_ ?_); (focus kernel_rfl); (focus kernel_rfl); intro K hK; go_step; refine hK _ ?_; clear hK K)
            still_call hl
            iterate 6 ((with_reducible refine wpStill_op ?_ ?_ ?_); (focus kernel_rfl); (focus kernel_rfl); intro K hK; go_step; refine hK _ ?_; clear hK K)
            refine wpStill_nil ?_
            clear hr5
            go_wp2_with fail
            go_roundw
            case rel => exact ⟨t + 1, _, _, _, by go_num, by omega, by omega, HBn.out⟩
            case measure => simp [intOf]; omega
      · have hdd : (decide (t < len2) = false) ∨ (decide (t < len2) = true ∧ decide ((t : Int) < 200) = false) := by
          by_cases h1 : t < len2
          · right
            refine ⟨by simpa using h1, by simp; omega⟩
          · left
            simpa using h1
        have HA := Lib.hid (awake_any wr)
        have HBl := Lib.hid hB.below
        clear hlt hB
        rcases hdd with d1 | ⟨d1, d2⟩
        · go_wp2_with (go_at_call 15; refine HA.out.mono ?_; rintro e w' ⟨rfl, o9⟩; (have HO := Lib.hid o9); clear o9)
          go_ret
          exact ⟨by first | rfl | simp, HBl.out.trans (HO.out.below _ HBl.out.size (by simp))⟩
        · go_wp2_with (go_at_call 15; refine HA.out.mono ?_; rintro e w' ⟨rfl, o9⟩; (have HO := Lib.hid o9); clear o9)
          go_ret
          exact ⟨by first | rfl | simp, HBl.out.trans (HO.out.below _ HBl.out.size (by simp))⟩

/- The row's step. -/
set_option maxRecDepth 100000 in
theorem lifted (os : Os) (started : os.Started) (H : Type) (enc : TypeId × Value → H) :
    ReturnsInHanded {} Try.checked os 3 .any (Rows.joinActsSpec.pre6 enc Try.prog Try.f3 Rows.joinActsRow.domain false) (Rows.joinActsSpec.post enc Try.prog Try.f3 false true false false) := by
  refine returnsInHanded_of_change_sized (C := Try.checked) own started (by kernel_rfl) Try.func3
    (ChangeSpec.witness6 (enc := enc) (C := Try.checked) false ⟨#[], #[.bool false, .int .i64 0, .slice none 0 0], []⟩ 8 (by kernel_rfl) (by kernel_rfl) (by kernel_rfl) (by kernel_rfl)) ?_
  intro W base args ds gs before hval0 hW hcnd hsz _
  have hval : ∀ (j : Nat) t v, Try.f3.params[j]? = some t → args[j]? = some v → Value.okWide Try.prog W .any base t v := hval0
  have hW' := hW
  obtain ⟨p, q, hA0, hV, rfl, hfz, hnd⟩ := hW
  have hA : DataW.TrodAll enc Try.prog W 0 (fun _ => true) true Try.f3.params.toList args.toList ds p := hA0
  rw [Try.params3] at hA hval
  obtain ⟨v0, vs0, d0, ds0, p0, q0, hargs, rfl, rfl, h0, r0⟩ := trodAll_cons hA
  obtain ⟨v1, vs1, d1, ds1, p1, q1, rfl, rfl, rfl, h1, r1⟩ := trodAll_cons r0
  obtain ⟨v2, vs2, d2, ds2, p2, q2, rfl, rfl, rfl, h2, r2⟩ := trodAll_cons r1
  obtain ⟨rfl, rfl, rfl⟩ := trodAll_nil r2
  obtain rfl : args = #[v0, v1, v2] := by cases args; simp_all
  obtain ⟨rfl, rfl⟩ := trodVars_none hV
  obtain ⟨a0, rfl, rfl, rfl⟩ := open_bool Try.underlying4 (hval 0 4 v0 rfl rfl) h0
  obtain ⟨a1, rfl, rfl, rfl, w1⟩ := open_int Try.underlying3 (hval 1 3 v1 rfl rfl) h1
  obtain ⟨a2, len2, cap2, rfl⟩ := okWide_slice Try.underlying22 (hval 2 22 v2 rfl rfl)
  have k2 := h2
  have lt2 : ∀ x ∈ p2, x.block < W.heap.size := by obtain ⟨m, hm⟩ := k2; exact DataW.trod_lt m _ _ _ hm
  have w2 : ActRow W a2 len2 := by
    obtain ⟨fuel, hf⟩ := h2
    exact open_acts hf
  clear hA0 hval0
  refine (walk a0 a1 w1 a2 len2 cap2 W w2).mono fun e W' ⟨he, bel⟩ => ?_
  subst he
  exact ⟨_, rfl, _, _, _, [], _, [], hW', trodAll_mk1 (shut_bool Try.underlying4 _), (trodAll_cons_mk (shut_bool Try.underlying4 _) (trodAll_cons_mk (shut_int Try.underlying3 w1) (trodAll_cons_mk (Below.trod laidOut (by kernel_rfl) (of_decide_eq_true (by kernel_rfl)) k2 bel lt2) trodAll_mk0))), rfl, bel.frame _, fun h => by cases h⟩

theorem over : Rows.joinActsRow.holds Try.pinned (OpenSpec.ofChange Rows.joinActsSpec) :=
  OpenClaim.holds_of_wide 3 Try.f3 rfl rfl rfl rfl rfl rfl rfl ⟨rfl, rfl, rfl, rfl, rfl⟩ rfl rfl rfl rfl rfl (by kernel_rfl) Try.func3 (by kernel_rfl)
    (of_decide_eq_true (by kernel_rfl)) (by unfold Func.isWrapper; first | (rw [if_pos (by decide +kernel)]; kernel_rfl) | (rw [if_neg (by decide +kernel)]; exact ⟨rfl, rfl⟩))
    (fun os started H enc _ => lifted os started H enc)

/-- The statement. -/
theorem proved : Rows.JoinActsSaid := over
#print axioms proved
end Go.Proofs.Ytcfgbfabokhjcaa.joinActs

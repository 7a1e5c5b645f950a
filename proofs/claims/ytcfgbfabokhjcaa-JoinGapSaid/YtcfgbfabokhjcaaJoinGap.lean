/- Proved here: withylaw19.JoinGap returns true for every input and leaves its arguments as they were (the given statement Rows.JoinGapSaid). Conditions: none. -/
import Derived.Test.YtcfgbfabokhjcaaRows
import Derived.Test.YtcfgbfabokhjcaaGot
import Derived.Test.YtcfgbfabokhjcaaMask
import Derived.WalkKit
import Derived.Lib.Hide
import Derived.Deep.Cut
import Derived.StillTactics
import Derived.ProofKit
import Derived.OpenShut
import Derived.ShutString
namespace Go.Proofs.Ytcfgbfabokhjcaa.joinGap
open Go.ChangeShapes Go.WideShapes Go.ChangeAt Go.RowKit
open Plain
open Go.ChangeMaps (open_string shut_string)
set_option linter.unusedVariables false      -- a walk need not use every 'w<i>' (that an integer argument fits its kind)

theorem own : ownKnob Try.prog.godebug = none := by kernel_rfl

/- The walk: the law's text returns true. -/
set_option maxRecDepth 100000 in
set_option maxHeartbeats 2000000 in
theorem walk (a0 : Int) (a1 : Int) (w0 : (Lit.int .i64 a0).wf = true) (w1 : (Lit.int .i64 a1).wf = true) (w : World) :
    Calls Try.prog 6 #[.int .i64 a0, .int .i64 a1] w fun e w' => e = .returned (.bool true) ∧ Below w.heap.size w w' := by
  have L0 := and_3 a1
  have U1 := u64_nonneg a0
  clear w0 w1
  obtain ⟨i9, hi9, hz9, hsz9, hby9⟩ := info_parts info9
  go_enter Try.func6, Try.ntmps6
  go_wp2_with fail
  refine (awake_any w).mono ?_
  rintro e wa ⟨rfl, O0⟩
  have r31 : 0 ≤ a1 % 4 := by omega
  have r32 : a1 % 4 < 4 := by omega
  have r33 : 0 ≤ (IntKind.u64.wrap a0) % 10 := by omega
  have r34 : (IntKind.u64.wrap a0) % 10 < 10 := by omega
  generalize a1 % 4 = q at *
  obtain ⟨kk, hkk⟩ := Int.eq_ofNat_of_zero_le r31
  obtain ⟨g, hg⟩ := Int.eq_ofNat_of_zero_le r33
  subst hkk
  have hkk4 : kk < 4 := by omega
  have hg10 : g < 10 := by omega
  go_upto_region 5 with fail
  generalize hKK : 1 + (kk : Int) = K at *
  generalize hGG : (g : Int) = G at *
  have hK1 : (kk : Int) + 1 ≤ K := by omega
  have hK2 : K ≤ (kk : Int) + 1 := by omega
  have hG1 : (g : Int) ≤ G := by omega
  have hG2 : G ≤ (g : Int) := by omega
  clear U1 r31 r32 r33 r34 hg hKK hGG
  go_wp2_with fail
  refine (new_good true 64 wa (by omega) (by omega)).mono ?_
  rintro e wb ⟨p, bl, bh, rfl, h0, o0, n1, n2, n3⟩
  have hOw := O0.size
  have HB1 := Lib.hid (And.intro n1 (And.intro n2 n3))
  have O1 : Below w.heap.size w wb := (O0.trans o0).below _ (Nat.le_refl _) (by simp)
  have HB2 := Lib.hid (show w.heap.size ≤ p ∧ w.heap.size ≤ bl ∧ w.heap.size ≤ bh from ⟨by omega, by omega, by omega⟩)
  clear L0 o0 O0 n1 n2 n3 hOw HB1
  go_wp2_with (go_at_call 14; refine (num_any _ _).mono ?_; rintro e w' ⟨rfl, rfl⟩)
  go_loopw [9] (fun i wr => ∃ t : Nat, i = .int .i64 t ∧ t ≤ (kk + 1) ∧ PJ wr p bl bh (addN t (J.new true 64)) ∧ Below w.heap.size w wr) (fun i _ => (kk + 1) - (intOf i).toNat)
  case atStart => exact ⟨0, rfl, by omega, h0, O1⟩
  case round =>
    clear h0 O1
    obtain ⟨t, rfl, ht, h0, O1⟩ := hrel
    by_cases hlt : t < (kk + 1)
    · have d0 : decide ((t : Int) < K) = true := by simp; omega
      go_wp2_with fail
      refine (add_any p bl bh _ (t : Int) wr h0 (by omega) (by omega)).mono ?_
      rintro e wc ⟨rfl, h1, o1⟩
      have O2 : Below w.heap.size w wc := O1.trans (o1.below _ O1.size (by have := HB2.out; simp; omega))
      clear h0 O1 o1
      go_wp2_with fail
      go_roundw
      case rel => exact ⟨t + 1, by go_num, by omega, h1, O2⟩
      case measure => simp [intOf]; omega
    · have d0 : decide ((t : Int) < K) = false := by simp; omega
      have ht2 : t = (kk + 1) := by omega
      rw [ht2] at h0
      clear ht2 hlt ht
      go_wp2_with fail
      have hc := chk_gap ⟨kk, by omega⟩ ⟨g, by omega⟩
      simp only at hc
      have hG0 := Got.nil wr w.heap.size p bl bh
      go_loopw [10, 11] (fun x i wr => ∃ (t : Nat) (S : J) (got : List ByteArray) (aog : Option Addr) (capg : Nat), i = .int .i64 t ∧ t ≤ 13 + kk ∧ x = .slice aog got.length capg ∧ PJ wr p bl bh S ∧ chkG (kk + 1) g (13 + kk - t) S got t = true ∧ got.length ≤ t * 130 ∧ Got wr w.heap.size p bl bh aog capg got ∧ Below w.heap.size w wr) (fun _ i _ => 13 + kk - (intOf i).toNat)
      case atStart => exact ⟨0, _, [], none, 0, rfl, by omega, rfl, h0, hc, by simp, hG0, O1⟩
      case round =>
        clear h0 O1 hc hG0 d0
        obtain ⟨t, S, got, aog, capg, rfl, ht, rfl, hS, hc, hgl, hG, hb⟩ := hrel
        by_cases hlt : t < 13 + kk
        · have d0 : decide ((t : Int) < 12 + K) = true := by simp; omega
          rw [show 13 + kk - t = (13 + kk - (t + 1)) + 1 by omega] at hc
          simp only [chkG] at hc
          by_cases hg : t = g
          · rw [if_pos hg] at hc
            have d1 : ((t : Int) == G) = true := by simp; omega
            go_wp2_with fail
            go_roundw
            case rel => exact ⟨t + 1, S, got, aog, capg, by go_num, by omega, rfl, hS, hc, by omega, hG, hb⟩
            case measure => simp [intOf]; omega
          · rw [if_neg hg] at hc
            have d1 : ((t : Int) == G) = false := by simp; omega
            simp only [okS, Bool.and_eq_true, decide_eq_true_eq] at hc
            obtain ⟨⟨⟨c1, c2⟩, c3⟩, c4⟩ := hc
            have HTM := Lib.hid (show (t : Int).tmod K = ((t % (kk + 1) : Nat) : Int) by rw [Int.tmod_eq_emod_of_nonneg (by omega), show K = ((kk + 1 : Nat) : Int) by omega]; omega)
            have HTE := Lib.hid (show (t : Int) % K = ((t % (kk + 1) : Nat) : Int) by rw [show K = ((kk + 1 : Nat) : Int) by omega]; omega)
            have hm5 : t % (kk + 1) < 5 := by have := Nat.mod_lt t (show 0 < kk + 1 by omega); omega
            generalize t % (kk + 1) = m at *
            have hK0 : ¬ K = 0 := by omega
            have HPut := Lib.hid (fun wx (hx : PJ wx p bl bh S) => put_at (b := true) (e := true) (q := (t : Int) % 4096) (d := dec t) (T := putS S (m : Int) (wholeF t (dec t))) (outs := putO S (m : Int) (wholeF t (dec t))) (code := 0) hx (link := (m : Int)) (by omega) (by omega) c1 (by omega) rfl c3 rfl)
            have HC := Lib.hid c4
            have HOK := Lib.hid c1
            generalize putS S (m : Int) (wholeF t (dec t)) = S2 at *
            generalize putO S (m : Int) (wholeF t (dec t)) = outs at *
            clear c1 c2 c3 c4
            have hlJ := hS.lt
            go_wp2_with fail
            refine wp_region_mix (fun _ => True) [(0, true), (1, true), (2, true), (4, true), (5, true), (3, true), (6, false), (7, false), (8, false), (9, false), (10, true), (11, true), (12, false), (13, false)] mixed (by kernel_rfl) (fun d v c a w h => by cases d <;> exact h) trivial ?_
            simp only [List.filterMap_cons, List.filterMap_nil, List.getElem?_cons_succ, List.getElem?_cons_zero, Option.map_some]
            have hS1 := hS.drew
            have hG1 := hG.only (Only.drew (Only.refl [] _)) (by simp)
            have hb1 := hb.drew
            clear hS hG hb
            have hlJ1 := hS1.lt
            clear hlJ
            generalize wr.drew = w1 at *
            iterate 5 ((with_reducible refine mix_move ?_ ?_); (focus rfl))
            ((with_reducible refine mix_free ?_ (v := ?_) (fun w' h' => ?_) ?_); (focus rfl); rotate_left; (focus (go_simp <;> with_reducible rfl)))
            with_reducible refine mix_op ?_ ?_
            · rfl
            intro K hK
            go_step
            refine (decimal_any t (by omega) _).mono ?_
            rintro e w2 ⟨rfl, ho⟩
            have hS2 := hS1.only ho (by simp) (by simp) (by simp)
            have hG2 := hG1.only ho (by simp)
            have hb2 : Below w.heap.size w w2 := hb1.trans (ho.below _ hb1.size (by simp))
            refine hK _ _ trivial ?_
            clear hK K hS1 hG1 hb1 ho
            with_reducible refine mix_op ?_ ?_
            · rfl
            intro K hK
            go_step
            refine (whole_any _ _ _).mono ?_
            rintro e w3 ⟨rfl, ho⟩
            have hS3 := hS2.only ho (by simp) (by simp) (by simp)
            have hG3 := hG2.only ho (by simp)
            have hb3 : Below w.heap.size w w3 := hb2.trans (ho.below _ hb2.size (by simp))
            refine hK _ _ trivial ?_
            clear hK K hS2 hG2 hb2 ho
            have HP := Lib.hid (HPut.out w3 hS3)
            have hlJ3 := hS3.lt
            clear HPut hlJ1
            with_reducible refine mix_op ?_ ?_
            · rfl
            intro K hK
            go_step
            rw [HTE.out]
            refine HP.out.mono ?_
            rintro e w4 ⟨ao4, cap4, rfl, sl4, fr4, h4, o4, hol⟩
            have hG4 := hG3.only o4 (by simp)
            have hb4 : Below w.heap.size w w4 := hb3.trans (o4.below _ hb3.size (by have := HB2.out; simp; omega))
            refine hK _ _ trivial ?_
            clear hK K hS3 hG3 hb3 HP HTM HTE
            ((with_reducible refine mix_op ?_ ?_); (focus rfl); intro K hK; go_step; refine hK _ _ trivial ?_; clear hK K)
            iterate 2 ((with_reducible refine mix_free ?_ (v := ?_) (fun w' h' => ?_) ?_); (focus rfl); rotate_left; (focus (go_simp <;> with_reducible rfl)))
            iterate 2 ((with_reducible refine mix_op ?_ ?_); (focus rfl); intro K hK; go_step; refine hK _ _ trivial ?_; clear hK K)
            refine mix_nil ?_
            have hlJ4 := h4.lt
            have ho130 : outs.length ≤ 129 := by have := HOK.out; omega
            clear HOK hol
            go_wp2_with (first | (go_at_call 14; refine (num_any _ _).mono ?_; rintro e w' ⟨rfl, rfl⟩) | (at_builtin; refine wpList_append_src _ rfl (.tmp 64) (.tmp 65) 38 rfl 9 i9 (.string ⟨#[]⟩) 1 16 Try.underlying38 hi9 hz9 hsz9 hby9 rfl _ _ _ _ rfl hG4.1 _ _ _ _ rfl (str_src sl4) (by unfold maxLen; omega) (by omega) ?_; intro aog' capg' w6 hs6 hg6 hb6))
            obtain ⟨hG5, o5⟩ := hG4.app hb4.size hlJ4 hs6 hg6 hb6
            have hbn : ∀ k, blk aog = some k → w.heap.size ≤ k ∧ k ∉ [p, bl, bh] := hG4.2
            have h5 := h4.only o5 (by cases hk : blk aog with | none => simp | some k => have := (hbn k hk).2; simp at this ⊢; omega) (by cases hk : blk aog with | none => simp | some k => have := (hbn k hk).2; simp at this ⊢; omega) (by cases hk : blk aog with | none => simp | some k => have := (hbn k hk).2; simp at this ⊢; omega)
            have hb5 : Below w.heap.size w w6 := hb4.trans (o5.below _ hb4.size (by cases hk : blk aog with | none => simp | some k => have := (hbn k hk).1; simp; omega))
            clear hs6 hg6 hb6 hG4 hb4 h4 o5 hbn
            go_wp2_with fail
            go_roundw
            case rel => exact ⟨t + 1, S2, got ++ outs, aog', capg', by go_num, by omega, by rw [List.length_append], h5, HC.out, by rw [List.length_append]; omega, hG5, hb5⟩
            case measure => simp [intOf]; omega
        have d0 : decide ((t : Int) < 12 + K) = false := by simp; omega
        have ht2 : t = 13 + kk := by omega
        rw [ht2, Nat.sub_self] at hc
        clear ht2 hlt ht
        simp only [chkG, Bool.and_eq_true, decide_eq_true_eq] at hc
        obtain ⟨hc1, hc2⟩ := hc
        have hgg := gap_get ⟨kk, by omega⟩ ⟨g, by omega⟩
        simp only at hgg
        rw [← hc1] at hgg
        have HGL := Lib.hid hgg.1
        have HGET : Hid (∀ t, t < got.length → got[t]? = some (dec (if t < g then t else t + 1))) := fun t ht => hgg.2 ⟨t, by have := hgg.1; omega⟩ (by have := hgg.1; show t < _; omega)
        have HH0 := Lib.hid hc2
        have hgl2 : got.length ≤ 12 + kk := by have := hgg.1; omega
        have hgl3 : 12 + kk ≤ got.length := by have := hgg.1; omega
        clear hc1 hc2 hgl
        clear hgg
        go_wp2_with fail
        go_loopw [14, 15] (fun x i wz => ∃ t : Nat, i = .int .i64 t ∧ t ≤ got.length ∧ x = .int .i64 ((if t ≤ g then t else t + 1 : Nat) : Int) ∧ PJ wz p bl bh S ∧ Got wz w.heap.size p bl bh aog capg got ∧ Below w.heap.size w wz) (fun _ i _ => got.length - (intOf i).toNat)
        case atStart => exact ⟨0, rfl, by omega, by simp, hS, hG, hb⟩
        case round =>
          clear hS hG hb d0
          obtain ⟨t, rfl, ht, rfl, hS, hG, hb⟩ := hrel
          by_cases hlt : t < got.length
          · have d0 : decide (t < got.length) = true := by simpa using hlt
            have hge := HGET.out t hlt
            obtain ⟨q, hq⟩ : ∃ q, (if t < g then t else t + 1) = q := ⟨_, rfl⟩
            rw [hq] at hge
            have hq100 : q < 100 := by rw [← hq]; split <;> omega
            obtain ⟨gb, go, rfl⟩ := hG.1.some (by omega)
            have hgc : (got.map Value.string)[t]? = some (.string (dec q)) := by rw [List.getElem?_map, hge]; rfl
            have HC := Lib.hid (fun w' (h : Got w' w.heap.size p bl bh (some ⟨gb, go, none⟩) capg got) => h.1.cells t _ hgc)
            have HS := Lib.hid (And.intro hS hb)
            have HQ := Lib.hid (show ((if t + 1 ≤ g then t + 1 else t + 1 + 1 : Nat) : Int) = (q : Int) + 1 by rw [← hq]; split <;> split <;> omega)
            have hcase : (∃ _ : t < g, ((t : Int) == G) = false ∧ t = q ∧ (if t ≤ g then t else t + 1) = t) ∨ (((t : Int) == G) = true ∧ t + 1 = q ∧ (if t ≤ g then t else t + 1) = t) ∨ (((t : Int) + 1 == G) = false ∧ t + 1 = q ∧ (if t ≤ g then t else t + 1) = t + 1) := by
              by_cases h1 : t < g
              · exact .inl ⟨h1, by simp; omega, by rw [← hq, if_pos h1], by rw [if_pos (by omega)]⟩
              · by_cases h2 : t = g
                · exact .inr (.inl ⟨by simp; omega, by rw [← hq, if_neg h1], by rw [if_pos (by omega)]⟩)
                · exact .inr (.inr ⟨by simp; omega, by rw [← hq, if_neg h1], by rw [if_neg (by omega)]⟩)
            clear hgc hge hq hS hb
            rcases hcase with ⟨_, e1, e2, e3⟩ | ⟨e1, e2, e3⟩ | ⟨e1, e2, e3⟩
            all_goals
              rw [e3]
              subst e2
              clear e3
              go_wp2_with fail
              refine wp_region_mix (fun w' => Got w' w.heap.size p bl bh (some ⟨gb, go, none⟩) capg got) [(0, true), (1, true), (4, true), (2, true), (3, true), (5, false), (6, false)] mixed (by kernel_rfl) (fun d v c a w h => by cases d <;> exact h) (hG.only (Only.drew (Only.refl [] _)) (by simp)) ?_
              simp only [List.filterMap_cons, List.filterMap_nil, List.getElem?_cons_succ, List.getElem?_cons_zero, Option.map_some]
              have hG1 := hG.only (Only.drew (Only.refl [] _)) (by simp)
              have hb1 := HS.out.2.drew
              have hS1 := HS.out.1.drew
              clear HS hG
              generalize wr.drew = w1 at *
              iterate 3 ((with_reducible refine mix_move ?_ ?_); (focus rfl))
              ((with_reducible refine mix_free ?_ (v := ?_) (fun w' h' => ?_) ?_); (focus rfl); rotate_left; (focus (go_simp <;> with_reducible rfl)))
              ((with_reducible refine mix_free ?_ (v := ?_) (fun w' h' => ?_) ?_); (focus rfl); rotate_left; (focus (have c4 := HC.out _ h'; go_simp <;> with_reducible rfl)))
              with_reducible refine mix_op ?_ ?_
              · rfl
              intro K hK
              go_step
              refine (decimal_any _ hq100 _).mono ?_
              rintro e w2 ⟨rfl, ho⟩
              have hG2 := hG1.only ho (by simp)
              have hb2 : Below w.heap.size w w2 := hb1.trans (ho.below _ hb1.size (by simp))
              have hS2 := hS1.only ho (by simp) (by simp) (by simp)
              refine hK _ _ hG2 ?_
              clear hK K hG1 hb1 hS1 ho
              ((with_reducible refine mix_op ?_ ?_); (focus rfl); intro K hK; go_step; refine hK _ _ hG2 ?_; clear hK K)
              refine mix_nil ?_
              go_wp2_with fail
              go_roundw
              case rel => exact ⟨t + 1, by go_num, by omega, (by rw [HQ.out]; all_goals go_num), hS2, hG2, hb2⟩
              case measure => simp [intOf]; omega
          · have d0 : decide (t < got.length) = false := by simpa using hlt
            have hhl := held_any p bl bh S _ hS
            rw [HH0.out] at hhl
            have hgl : ((got.length : Int) == 11 + K) = true := by have := HGL.out; simp; omega
            clear hS hG
            go_wp2_with (go_at_call 23; refine hhl.mono ?_; rintro e w' ⟨rfl, rfl⟩)
            go_ret
            exact ⟨by first | rfl | simp, hb⟩

/- The row's step. -/
set_option maxRecDepth 100000 in
theorem lifted (os : Os) (started : os.Started) (H : Type) (enc : TypeId × Value → H) :
    ReturnsInHanded {} Try.checked os 6 .any (Rows.joinGapSpec.pre6 enc Try.prog Try.f6 Rows.joinGapRow.domain false) (Rows.joinGapSpec.post enc Try.prog Try.f6 false true false false) := by
  refine returnsInHanded_of_change (C := Try.checked) own started (by kernel_rfl) Try.func6
    (ChangeSpec.witness6 (enc := enc) (C := Try.checked) false ⟨#[], #[.int .i64 0, .int .i64 0], []⟩ 8 (by kernel_rfl) (by kernel_rfl) (by kernel_rfl) (by kernel_rfl)) ?_
  intro W base args ds gs before hval0 hW hcnd _
  have hval : ∀ (j : Nat) t v, Try.f6.params[j]? = some t → args[j]? = some v → Value.okWide Try.prog W .any base t v := hval0
  have hW' := hW
  obtain ⟨p, q, hA0, hV, rfl, hfz, hnd⟩ := hW
  have hA : DataW.TrodAll enc Try.prog W 0 (fun _ => true) true Try.f6.params.toList args.toList ds p := hA0
  rw [Try.params6] at hA hval
  obtain ⟨v0, vs0, d0, ds0, p0, q0, hargs, rfl, rfl, h0, r0⟩ := trodAll_cons hA
  obtain ⟨v1, vs1, d1, ds1, p1, q1, rfl, rfl, rfl, h1, r1⟩ := trodAll_cons r0
  obtain ⟨rfl, rfl, rfl⟩ := trodAll_nil r1
  obtain rfl : args = #[v0, v1] := by cases args; simp_all
  obtain ⟨rfl, rfl⟩ := trodVars_none hV
  obtain ⟨a0, rfl, rfl, rfl, w0⟩ := open_int Try.underlying3 (hval 0 3 v0 rfl rfl) h0
  obtain ⟨a1, rfl, rfl, rfl, w1⟩ := open_int Try.underlying3 (hval 1 3 v1 rfl rfl) h1
  clear hA0 hval0
  refine (walk a0 a1 w0 w1 W).mono fun e W' ⟨he, hg⟩ => ?_
  subst he
  exact ⟨_, rfl, _, _, _, [], _, [], hW', (trodAll_cons_mk (shut_bool Try.underlying4 _) trodAll_mk0), (trodAll_cons_mk (shut_int Try.underlying3 w0) (trodAll_cons_mk (shut_int Try.underlying3 w1) trodAll_mk0)), rfl, hg.frame _, fun h => by cases h⟩

theorem over : Rows.joinGapRow.holds Try.pinned (OpenSpec.ofChange Rows.joinGapSpec) :=
  OpenClaim.holds_of_wide 6 Try.f6 rfl rfl rfl rfl rfl rfl rfl ⟨rfl, rfl, rfl, rfl, rfl⟩ rfl rfl rfl rfl rfl (by kernel_rfl) Try.func6 (by kernel_rfl)
    (of_decide_eq_true (by kernel_rfl)) (by unfold Func.isWrapper; first | (rw [if_pos (by decide +kernel)]; kernel_rfl) | (rw [if_neg (by decide +kernel)]; exact ⟨rfl, rfl⟩))
    (fun os started H enc _ => lifted os started H enc)

/-- The statement. -/
theorem proved : Rows.JoinGapSaid :=
  over
#print axioms proved
end Go.Proofs.Ytcfgbfabokhjcaa.joinGap

/- Proved here: withylaw19.JoinTwice returns true for every input and leaves its arguments as they were (the given statement Rows.JoinTwiceSaid). Conditions: none. -/
import Derived.Test.YtcfgbfabokhjcaaRows
import Derived.Test.YtcfgbfabokhjcaaTwo
import Derived.Test.YtcfgbfabokhjcaaMask
import Derived.WalkKit
import Derived.Lib.Hide
import Derived.Deep.Cut
import Derived.StillTactics
import Derived.SizedLaws
import Derived.ProofKit
import Derived.OpenShut
import Derived.ShutString
namespace Go.Proofs.Ytcfgbfabokhjcaa.joinTwice
open Go.ChangeShapes Go.WideShapes Go.ChangeAt Go.RowKit
open Plain
open Go.ChangeMaps (open_string shut_string)
set_option linter.unusedVariables false      -- a walk need not use every 'w<i>' (that an integer argument fits its kind)

theorem own : ownKnob Try.prog.godebug = none := by kernel_rfl

theorem src_nil (w : World) (size : Nat) (ax : Option Addr) : Src w size ax 0 [] := by
  refine ⟨by simp, by simp, ?_⟩
  cases ax with
  | none => exact .inl ⟨rfl, rfl⟩
  | some a => exact .inr ⟨a, rfl, fun j u h => by simp at h⟩

/- The walk: the law's text returns true. -/
set_option maxRecDepth 100000 in
set_option maxHeartbeats 2000000 in
theorem walk (a0 : ByteArray) (a1 : Int) (w0 : a0.size ≤ 140737488351232) (w1 : (Lit.int .i64 a1).wf = true) (w : World) :
    Calls Try.prog 11 #[.string a0, .int .i64 a1] w fun e w' => e = .returned (.bool true) ∧ Below w.heap.size w w' := by
  have L0 := and_15 a1
  clear w1
  obtain ⟨i9, hi9, hz9, hsz9, hby9⟩ := info_parts info9
  go_enter Try.func11, Try.ntmps11
  go_wp2_with fail
  refine (awake_any w).mono ?_
  rintro e wa ⟨rfl, O0⟩
  have r31 : 0 ≤ a1 % 16 := by omega
  have r32 : a1 % 16 < 16 := by omega
  generalize a1 % 16 = q at *
  have hcs : ¬ 9223372036854775807 < a0.size + 1 := by omega
  have hsz1 : (a0 ++ (⟨#[120]⟩ : ByteArray)).size = a0.size + 1 := by rw [ByteArray.size_append]; rfl
  go_upto_if 22 with fail
  have HSZ := Lib.hid hsz1
  go_cut [5] from 20 to 24 (fun v wx => wa = wx ∧ ∃ T : ByteArray, v = .string T ∧ 1 ≤ T.size ∧ T.size ≤ 100)
  case first =>
    by_cases hl : 100 < a0.size + 1
    · go_wp2_with fail
      go_meet
      case rel => exact ⟨rfl, _, rfl, by rw [ByteArray.size_extract, HSZ.out]; omega, by rw [ByteArray.size_extract, HSZ.out]; omega⟩
    · go_wp2_with fail
      go_meet
      case rel => exact ⟨rfl, _, rfl, by rw [HSZ.out]; omega, by rw [HSZ.out]; omega⟩
  case rest =>
    obtain ⟨rfl, T, rfl, hT1, hT2⟩ := hcut
    clear hcs hsz1 HSZ
    go_wp2_with fail
    have hArr : Cutp.Arr (wa.alloc (.cells #[.int .i64 (2 + q)] 3)) (some ⟨wa.heap.size, 0, none⟩) 1 (fun _ => 2 + q) := by
      refine ⟨by omega, fun i hi => ⟨wa.heap.size, 0, rfl, by simp, ?_, by show _ ≤ 2 + q; omega, by show 2 + q ≤ _; omega⟩⟩
      have := cell_of (heap_alloc_new' wa (.cells #[.int .i64 (2 + q)] 3)) 0
      have e : i = 0 := by omega
      subst e
      exact this
    refine (Cutp.rcut_any T _ 1 1 (fun _ => 2 + q) 0 true _ (by omega) hArr).mono ?_
    rintro e wf ⟨of, hbad | ⟨_, n, aof, capf, hn64, hcuts, rfl, hfs, hfb⟩⟩
    · exfalso
      have := (Cutp.bad_one T.size (2 + q) 0 true).1 hbad.1
      have hr : ring true = 4096 := rfl
      rw [hr] at this
      omega
    have hC : CutT T (2 + q) n := ⟨hcuts, hn64, by omega, hT1, by omega⟩
    have hn1 := hC.n1
    have O1 : Below w.heap.size w wf := ((O0.alloc _).trans of).below _ (Nat.le_refl _) (by simp)
    have hfb2 : ∀ k, blk aof = some k → w.heap.size ≤ k ∧ k < wf.heap.size := fun k hk => ⟨by have h1 := hfb k hk; have h2 := O0.size; simp at h1; omega, hfs.lt hk⟩
    clear hArr of hcuts hfb L0 O0
    generalize 2 + q = k at *
    clear r31 r32
    go_wp2_with fail
    refine (new_good true 128 wf (by omega) (by omega)).mono ?_
    rintro e wb ⟨p, bl, bh, rfl, h0, o0, n1, n2, n3⟩
    have O2 := O1.trans (o0.below _ O1.size (by simp))
    have hfs2 := hfs.only o0 (by simp)
    have hszf := O1.size
    have hsz0 := o0.size
    go_wp2_with fail
    refine (add_any p bl bh _ 0 wb h0 (by omega) (by omega)).mono ?_
    rintro e wc ⟨rfl, h1, o1⟩
    have O3 := O2.trans (o1.below _ O2.size (by simp; omega))
    have hfs3 := hfs2.only o1 (fun k hk => by have := (hfb2 k hk).2; simp; omega)
    have hsz2 := o1.size
    go_wp2_with fail
    refine (add_any p bl bh _ 1 wc h1 (by omega) (by omega)).mono ?_
    rintro e wd ⟨rfl, h2, o2⟩
    have O4 := O3.trans (o2.below _ O3.size (by simp; omega))
    have hfs4 := hfs3.only o2 (fun k hk => by have := (hfb2 k hk).2; simp; omega)
    have hT0 := Two.start (t := T) (k := k) h2.ok
    have hsz3 := o2.size
    have HB2 := Lib.hid (show w.heap.size ≤ p ∧ w.heap.size ≤ bl ∧ w.heap.size ≤ bh from ⟨by omega, by omega, by omega⟩)
    have HFB := Lib.hid (fun k (hk : blk aof = some k) => show w.heap.size ≤ k ∧ k < wd.heap.size ∧ k ∉ [p, bl, bh] from ⟨(hfb2 k hk).1, by have := (hfb2 k hk).2; omega, by have := (hfb2 k hk).2; simp; omega⟩)
    have hG0 := Got.nil wd wd.heap.size p bl bh
    have hw0 : w.heap.size ≤ wd.heap.size := O4.size
    have hBd : wd.heap.size ≤ wd.heap.size := Nat.le_refl _
    clear o0 o1 o2 h0 h1 O1 O2 O3 hfs hfs2 hfs3 hfb2 hszf hsz0 hsz2 hsz3 n1 n2 n3
    generalize (addS (addS (J.new true 128) 0) 1) = S0 at *
    generalize hBe : wd.heap.size = B at *
    have hBd2 : B ≤ wd.heap.size := by rw [hBe]; exact Nat.le_refl _
    clear hBe hBd
    go_wp2_with fail
    go_loopw [10, 11] (fun x y wr => ∃ (i : Nat) (S : J) (got : List ByteArray) (aog : Option Addr) (capg : Nat), y = .int .i64 i ∧ i ≤ n ∧ x = .slice aog got.length capg ∧ PJ wr p bl bh S ∧ ((i < n ∧ Two T k i S ∧ got = []) ∨ (i = n ∧ S.held.length = 0 ∧ S.lost = n ∧ got = [T])) ∧ Sl wr 33 4 aof n capf (Cutp.flatF (Cutp.frs T (fun _ => k) 1 0 (ring true) n)) ∧ Got wr B p bl bh aog capg got ∧ B ≤ wr.heap.size ∧ Below w.heap.size w wr) (fun _ y _ => n - (intOf y).toNat)
    case atStart => exact ⟨0, S0, [], none, 0, rfl, by omega, rfl, h2, .inl ⟨by omega, hT0, rfl⟩, hfs4, hG0, hBd2, O4⟩
    case round =>
      clear h2 hT0 hfs4 hG0 O4 hBd2
      obtain ⟨i, S, got, aog, capg, rfl, hi, rfl, hS, hst, hfs, hG, hBw, hb⟩ := hrel
      by_cases hlt : i < n
      · have d0 : decide (i < n) = true := by simpa using hlt
        have hTw : Two T k i S ∧ got = [] := by
          rcases hst with ⟨_, a, b⟩ | ⟨a, _⟩
          · exact ⟨a, b⟩
          · omega
        obtain ⟨hTw, hgot⟩ := hTw
        have HGOT := Lib.hid hgot
        have hgl0 : got.length ≤ 0 := by rw [hgot]; simp
        have HLJ := Lib.hid hS.lt
        clear hgot
        have hstep : ∃ o1 : List ByteArray, o1.length ≤ 1 ∧ putE S 0 (fT T k i) = 0 ∧ putO S 0 (fT T k i) = o1 ∧ putE (putS S 0 (fT T k i)) 1 (fT T k i) = 0 ∧ putO (putS S 0 (fT T k i)) 1 (fT T k i) = [] ∧ ((i + 1 < n ∧ Two T k (i + 1) (put2 T k i S) ∧ o1 = []) ∨ (i + 1 = n ∧ (put2 T k i S).held.length = 0 ∧ (put2 T k i S).lost = n ∧ o1 = [T])) := by
          by_cases e : i + 1 < n
          · obtain ⟨q1, q2, q3, q4, q5⟩ := hTw.step hC e
            exact ⟨[], by simp, q1, q2, q3, q4, .inl ⟨e, q5, rfl⟩⟩
          · obtain ⟨q1, q2, q3, q4, q5, q6, _⟩ := hTw.last hC (by omega)
            exact ⟨[T], by simp, q1, q2, q3, q4, .inr ⟨by omega, q5, q6, rfl⟩⟩
        obtain ⟨o1, ho1, q1, q2, q3, q4, q5⟩ := hstep
        have hlenS := hTw.lies.len
        have hmostS := hTw.most
        have hlostS := hTw.lost
        have hPK := put_k hS.ok (by rw [hlenS, hmostS]; omega) 0 (fT T k i) (by rw [hlenS, hlostS]; omega)
        have hk1 := hPK.few
        have hk2 := hPK.sum
        rw [hPK.most, hmostS] at hk1
        rw [hlenS, hlostS] at hk2
        have hP1 := put_any p bl bh S 0 (fT T k i) wr hS (by omega) (by omega) (by rw [hlenS]; omega) (by rw [hlenS, hlostS]; omega)
        rw [q1, q2] at hP1
        have HP2 : Hid (∀ wx, PJ wx p bl bh (putS S 0 (fT T k i)) → Calls Try.prog 20 #[.pointer (some ⟨p, 0, none⟩), .int .i64 1, .agg #[.bool (fT T k i).b, .bool (fT T k i).e, .int .i64 (fT T k i).q, .string (fT T k i).d]] wx fun e w' => ∃ ao cap, e = .returned (.tuple #[.slice ao 0 cap, .int .i64 0]) ∧ PJ w' p bl bh (put2 T k i S) ∧ Only [p, bl, bh] wx w') := fun wx hx => by
          have := put_any p bl bh _ 1 (fT T k i) wx hx (by omega) (by omega) (by omega) (by omega)
          rw [q3, q4] at this
          refine this.mono ?_
          rintro e w' ⟨ao, cap, rfl, _, _, h4, h5, _⟩
          exact ⟨ao, cap, rfl, h4, h5⟩
        have HP1 := Lib.hid hP1
        have HQ5 := Lib.hid q5
        have hfT : Cutp.fr T (fun _ => k) 1 0 (ring true) i = fT T k i := rfl
        obtain ⟨gf, of, rfl⟩ := hfs.some (by omega)
        have f0 := hfs.cells _ _ (Cutp.flatF_get _ i (by rw [Cutp.frs_length]; exact hlt)).1
        have f1 := hfs.cells _ _ (Cutp.flatF_get _ i (by rw [Cutp.frs_length]; exact hlt)).2.1
        have f2 := hfs.cells _ _ (Cutp.flatF_get _ i (by rw [Cutp.frs_length]; exact hlt)).2.2.1
        have f3 := hfs.cells _ _ (Cutp.flatF_get _ i (by rw [Cutp.frs_length]; exact hlt)).2.2.2
        rw [Cutp.frs_get] at f0 f1 f2 f3
        simp only [← Nat.add_assoc] at f1 f2 f3
        rw [hfT] at f0 f1 f2 f3
        have HFT := Lib.hid hfT
        clear q1 q2 q3 q4 q5 hTw hlenS hmostS hlostS hPK hk1 hk2 hP1 hS hst hfT
        have hlJ := HP1.out
        clear hlJ
        generalize put2 T k i S = S2 at *
        generalize putS S 0 (fT T k i) = S1 at *
        generalize hff : fT T k i = f at *
        have HFF := Lib.hid hff
        clear hff
        go_wp2_with fail
        refine HP1.out.mono ?_
        rintro e w1 ⟨ao1, cap1, rfl, sl1, fr1, h1, o1', _⟩
        have hfs1 := hfs.only o1' (fun k hk => (HFB.out k hk).2.2)
        have hG1 := hG.only o1' (by simp)
        have hb1 := hb.trans (o1'.below _ hb.size (by have := HB2.out; simp; omega))
        have hfr1 : ∀ k, blk ao1 = some k → k ∉ [p, bl, bh] := fun k hk => by have := fr1 k hk; have := HLJ.out; simp; omega
        have hBw1 : B ≤ w1.heap.size := Nat.le_trans hBw o1'.size
        clear f0 f1 f2 f3 hfs hG hb o1' fr1 HP1 hBw
        go_upto_region 17 with fail
        have f0 := hfs1.cells _ _ (Cutp.flatF_get _ i (by rw [Cutp.frs_length]; exact hlt)).1
        have f1 := hfs1.cells _ _ (Cutp.flatF_get _ i (by rw [Cutp.frs_length]; exact hlt)).2.1
        have f2 := hfs1.cells _ _ (Cutp.flatF_get _ i (by rw [Cutp.frs_length]; exact hlt)).2.2.1
        have f3 := hfs1.cells _ _ (Cutp.flatF_get _ i (by rw [Cutp.frs_length]; exact hlt)).2.2.2
        rw [Cutp.frs_get] at f0 f1 f2 f3
        simp only [← Nat.add_assoc] at f1 f2 f3
        rw [HFT.out] at f0 f1 f2 f3
        go_wp2_with fail
        refine (HP2.out _ h1).mono ?_
        rintro e w2 ⟨ao2, cap2, rfl, h2, o2⟩
        have hfs2 := hfs1.only o2 (fun k hk => (HFB.out k hk).2.2)
        have hG2 := hG1.only o2 (by simp)
        have sl2 := sl1.only o2 hfr1
        have hb2 := hb1.trans (o2.below _ hb1.size (by have := HB2.out; simp; omega))
        have hBw2 : B ≤ w2.heap.size := Nat.le_trans hBw1 o2.size
        have hlJ2 := h2.lt
        clear f0 f1 f2 f3 hfs1 hG1 sl1 hb1 o2 HP2 h1 hfr1 hBw1
        go_upto_region 20 with (go_at_call 14; refine (num_any _ _).mono ?_; rintro e w' ⟨rfl, rfl⟩)
        go_upto_region 21 with (at_builtin; refine wpList_append_src _ rfl (.tmp 79) (.tmp 80) 38 rfl 9 i9 (.string ⟨#[]⟩) 1 16 Try.underlying38 hi9 hz9 hsz9 hby9 rfl _ _ _ _ rfl hG2.1 _ _ _ _ rfl (str_src sl2) (by unfold maxLen; omega) (by omega) ?_; intro aog' capg' w6 hs6 hg6 hb6)
        obtain ⟨hG3, o3⟩ := hG2.app hBw2 hlJ2 hs6 hg6 hb6
        have hbn : ∀ k, blk aog = some k → B ≤ k ∧ k ∉ [p, bl, bh] := hG2.2
        have h3 := h2.only o3 (by cases hk : blk aog with | none => simp | some k => have := (hbn k hk).2; simp at this ⊢; omega) (by cases hk : blk aog with | none => simp | some k => have := (hbn k hk).2; simp at this ⊢; omega) (by cases hk : blk aog with | none => simp | some k => have := (hbn k hk).2; simp at this ⊢; omega)
        have hfs3 := hfs2.only o3 (fun k hk => by have := (HFB.out k hk).2.1; cases hk2 : blk aog with | none => simp | some k2 => have := (hbn k2 hk2).1; simp; omega)
        have hb3 : Below w.heap.size w w6 := hb2.trans (o3.below _ hb2.size (by cases hk : blk aog with | none => simp | some k => have := (hbn k hk).1; simp; omega))
        have hBw3 : B ≤ w6.heap.size := Nat.le_trans hBw2 o3.size
        have hlJ3 := h3.lt
        have hbn' : ∀ k, blk aog' = some k → B ≤ k ∧ k ∉ [p, bl, bh] := hG3.2
        have hsrc : Src w6 1 ao2 0 ([] : List Value) := src_nil w6 1 ao2
        have hgl : (got ++ o1).length ≤ 2 := by rw [List.length_append]; omega
        have hG3' := hG3.1
        clear hs6 hg6 hb6 hG2 hb2 h2 o3 hfs2 sl2 hbn hBw2
        have HGN := Lib.hid (show got ++ o1 = got ++ o1 ++ [] by simp)
        have HGo := Lib.hid (show got ++ o1 = o1 by rw [HGOT.out]; rfl)
        rw [List.length_append] at hG3' hgl
        go_wp2_with (at_builtin; refine wpList_append_src _ rfl (.tmp 82) (.tmp 83) 38 rfl 9 i9 (.string ⟨#[]⟩) 1 16 Try.underlying38 hi9 hz9 hsz9 hby9 rfl _ _ _ _ rfl hG3' _ _ _ _ rfl hsrc (by unfold maxLen; omega) (by omega) ?_; intro aoh caph w7 hs7 hg7 hb7)
        obtain ⟨hG4, o4⟩ := hG3.app (out := []) hBw3 hlJ3 (by simpa using hs7) hg7 hb7
        have h4 := h3.only o4 (by cases hk : blk aog' with | none => simp | some k => have := (hbn' k hk).2; simp at this ⊢; omega) (by cases hk : blk aog' with | none => simp | some k => have := (hbn' k hk).2; simp at this ⊢; omega) (by cases hk : blk aog' with | none => simp | some k => have := (hbn' k hk).2; simp at this ⊢; omega)
        have hfs4 := hfs3.only o4 (fun k hk => by have := (HFB.out k hk).2.1; cases hk2 : blk aog' with | none => simp | some k2 => have := (hbn' k2 hk2).1; simp; omega)
        have hb4 : Below w.heap.size w w7 := hb3.trans (o4.below _ hb3.size (by cases hk : blk aog' with | none => simp | some k => have := (hbn' k hk).1; simp; omega))
        have hBw4 : B ≤ w7.heap.size := Nat.le_trans hBw3 o4.size
        clear hs7 hg7 hb7 hG3 hG3' hb3 h3 o4 hfs3 hbn' hBw3
        go_wp2_with fail
        go_roundw
        case rel =>
          refine ⟨i + 1, S2, got ++ o1 ++ [], aoh, caph, by go_num, by omega, by simp, h4, ?_, hfs4, hG4, hBw4, hb4⟩
          rw [← HGN.out, HGo.out]
          rcases HQ5.out with ⟨e, e1, e2⟩ | ⟨e, e1, e2, e3⟩
          · exact .inl ⟨e, e1, e2⟩
          · exact .inr ⟨e, e1, e2, e3⟩
        case measure => simp [intOf]; omega
      · have d0 : decide (i < n) = false := by simpa using hlt
        have hfin : S.held.length = 0 ∧ S.lost = n ∧ got = [T] := by
          rcases hst with ⟨a, _⟩ | ⟨_, a, b, c⟩
          · omega
          · exact ⟨a, b, c⟩
        obtain ⟨e1, e2, rfl⟩ := hfin
        have hll := lost_any p bl bh S
        rw [e2] at hll
        have hhl := held_any p bl bh S
        rw [e1] at hhl
        have HL := Lib.hid hll
        have HH := Lib.hid hhl
        clear hfs hst hll hhl e1 e2
        go_wp2_with (go_at_call 14; refine (num_any _ _).mono ?_; rintro e w' ⟨rfl, rfl⟩)
        have o6 := (Only.refl [] wr).alloc (.cells #[.string T] 9)
        have sl6 := hG.1.only o6 (by simp)
        have sl7 := sl_laid wr #[.string T] 9 1 1 rfl (by unfold maxLen; omega)
        refine (same_texts _ _ 1 _ _ [T] _ rfl (by omega) sl6 sl7).mono ?_
        rintro e w7 ⟨rfl, o7⟩
        have h7 := hS.only (o6.trans o7) (by simp) (by simp) (by simp)
        have hb7 := hb.trans ((o6.trans o7).below _ hb.size (by simp))
        have hh7 := HH.out w7 h7
        have hl7 := HL.out w7 h7
        clear sl6 sl7 o6 o7 hG hS hb h7
        go_wp2_with (first | (go_at_call 23; refine hh7.mono ?_; rintro e w' ⟨rfl, rfl⟩) | (go_at_call 25; refine hl7.mono ?_; rintro e w' ⟨rfl, rfl⟩))
        go_ret
        exact ⟨by first | rfl | simp, hb7⟩

/- The row's step. -/
set_option maxRecDepth 100000 in
theorem lifted (os : Os) (started : os.Started) (H : Type) (enc : TypeId × Value → H) :
    ReturnsInHanded {} Try.checked os 11 .any (Rows.joinTwiceSpec.pre6 enc Try.prog Try.f11 Rows.joinTwiceRow.domain false) (Rows.joinTwiceSpec.post enc Try.prog Try.f11 false true false false) := by
  refine returnsInHanded_of_change_sized (C := Try.checked) own started (by kernel_rfl) Try.func11
    (ChangeSpec.witness6 (enc := enc) (C := Try.checked) false ⟨#[], #[.string ByteArray.empty, .int .i64 0], []⟩ 8 (by kernel_rfl) (by kernel_rfl) (by kernel_rfl) (by kernel_rfl)) ?_
  intro W base args ds gs before hval0 hW hcnd hsz _
  have hval : ∀ (j : Nat) t v, Try.f11.params[j]? = some t → args[j]? = some v → Value.okWide Try.prog W .any base t v := hval0
  have hW' := hW
  obtain ⟨p, q, hA0, hV, rfl, hfz, hnd⟩ := hW
  have hA : DataW.TrodAll enc Try.prog W 0 (fun _ => true) true Try.f11.params.toList args.toList ds p := hA0
  rw [Try.params11] at hA hval
  obtain ⟨v0, vs0, d0, ds0, p0, q0, hargs, rfl, rfl, h0, r0⟩ := trodAll_cons hA
  obtain ⟨v1, vs1, d1, ds1, p1, q1, rfl, rfl, rfl, h1, r1⟩ := trodAll_cons r0
  obtain ⟨rfl, rfl, rfl⟩ := trodAll_nil r1
  obtain rfl : args = #[v0, v1] := by cases args; simp_all
  obtain ⟨rfl, rfl⟩ := trodVars_none hV
  obtain ⟨a0, rfl, rfl, rfl, w0⟩ := open_string Try.underlying9 (hval 0 9 v0 rfl rfl) h0
  obtain ⟨a1, rfl, rfl, rfl, w1⟩ := open_int Try.underlying3 (hval 1 3 v1 rfl rfl) h1
  have z0 : a0.size ≤ 140737488351232 := by have := sized_string hsz (j := 0) (t := 9) rfl rfl; simpa [reachBytes] using this
  clear hA0 hval0
  refine (walk a0 a1 z0 w1 W).mono fun e W' ⟨he, hg⟩ => ?_
  subst he
  exact ⟨_, rfl, _, _, _, [], _, [], hW', (trodAll_cons_mk (shut_bool Try.underlying4 _) trodAll_mk0), (trodAll_cons_mk (shut_string Try.underlying9 w0) (trodAll_cons_mk (shut_int Try.underlying3 w1) trodAll_mk0)), rfl, hg.frame _, fun h => by cases h⟩

theorem over : Rows.joinTwiceRow.holds Try.pinned (OpenSpec.ofChange Rows.joinTwiceSpec) :=
  OpenClaim.holds_of_wide 11 Try.f11 rfl rfl rfl rfl rfl rfl rfl ⟨rfl, rfl, rfl, rfl, rfl⟩ rfl rfl rfl rfl rfl (by kernel_rfl) Try.func11 (by kernel_rfl)
    (of_decide_eq_true (by kernel_rfl)) (by unfold Func.isWrapper; first | (rw [if_pos (by decide +kernel)]; kernel_rfl) | (rw [if_neg (by decide +kernel)]; exact ⟨rfl, rfl⟩))
    (fun os started H enc _ => lifted os started H enc)

/-- The statement. -/
theorem proved : Rows.JoinTwiceSaid :=
  over
#print axioms proved
end Go.Proofs.Ytcfgbfabokhjcaa.joinTwice

/- Proved here: withylaw8.MpSeqs returns true for every input and leaves its arguments as they were (the given statement Rows.MpSeqsSaid). Conditions: none. -/
import Derived.Test.YtdpknandacoibaaRows
import Derived.Test.YtdpknandacoibaaSeqs
import Derived.Test.YtdpknandacoibaaMask
import Derived.WalkKit
import Derived.Lib.Hide
import Derived.Deep.Cut
import Derived.StillTactics
import Derived.ProofKit
import Derived.OpenShut
import Derived.ShutString
namespace Go.Proofs.Ytdpknandacoibaa.mpSeqs
open Go.ChangeShapes Go.WideShapes Go.ChangeAt Go.RowKit
open Plain
open Go.ChangeMaps (open_string shut_string)
set_option linter.unusedVariables false      -- a walk need not use every 'w<i>' (that an integer argument fits its kind)

theorem own : ownKnob Try.prog.godebug = none := by kernel_rfl

theorem cut_app (l : List Int) (d : ByteArray) : (strOfNums l ++ d).extract 0 l.length = strOfNums l ++ ⟨#[]⟩ := by
  apply ByteArray.ext
  rw [ByteArray.data_extract, ByteArray.data_append, ByteArray.data_append]
  apply Array.ext'
  rw [Array.toList_extract, List.extract_eq_take_drop, Array.toList_append, Array.toList_append]
  have hl : (strOfNums l).data.toList.length = l.length := by rw [strOfNums_data]; simp
  rw [List.drop_zero, Nat.sub_zero, List.take_append_of_le_length (by omega), List.take_of_length_le (by omega)]
  simp
structure Good (b e : Bool) (q : Int) (short : Bool) (S : ByteArray) : Prop where
  size : S.size = hlen short + 1
  hb : decide (128 ≤ byteAt S 0) = b
  he : decide (64 ≤ byteAt S 0 % 128) = e
  few : getE (S.extract 0 (hlen short - 1)) short = 800
  cutE : getE (S.extract 0 (hlen short)) short = 0
  cutF : getF (S.extract 0 (hlen short)) short = ⟨b, e, q, ⟨#[]⟩⟩
theorem good (b e : Bool) (q : Int) (short : Bool) (h0 : 0 ≤ q) (h1 : q < ring short) : putE ⟨b, e, q, ⟨#[100]⟩⟩ short = 0 ∧ Good b e q short (putS ⟨b, e, q, ⟨#[100]⟩⟩ short) := by
  have hk : PutOk ⟨b, e, q, ⟨#[100]⟩⟩ short := ⟨h0, h1, by show 1 ≤ 2048; omega⟩
  have hk2 : PutOk ⟨b, e, q, ⟨#[]⟩⟩ short := ⟨h0, h1, by show 0 ≤ 2048; omega⟩
  obtain ⟨t1, t2⟩ := there _ _ hk
  obtain ⟨u1, u2⟩ := there _ _ hk2
  have hp : putS ⟨b, e, q, ⟨#[100]⟩⟩ short = strOfNums (head b e q short) ++ ⟨#[100]⟩ := by unfold putS; rw [if_pos hk]; rfl
  have hp2 : putS ⟨b, e, q, ⟨#[]⟩⟩ short = strOfNums (head b e q short) ++ ⟨#[]⟩ := by unfold putS; rw [if_pos hk2]; rfl
  have hz : (putS ⟨b, e, q, ⟨#[100]⟩⟩ short).size = hlen short + 1 := by rw [hp, size_app, head_len]; rfl
  have hx : (putS ⟨b, e, q, ⟨#[100]⟩⟩ short).extract 0 (hlen short) = putS ⟨b, e, q, ⟨#[]⟩⟩ short := by
    have := cut_app (head b e q short) ⟨#[100]⟩
    rw [head_len] at this
    rw [hp, hp2, this]
  refine ⟨by unfold putE; rw [if_pos hk], ?_⟩
  generalize putS ⟨b, e, q, ⟨#[100]⟩⟩ short = S at *
  have hg : ¬ GetForm S short := fun hh => by unfold getE at t2; rw [if_pos hh] at t2; omega
  have hr : ¬ 2048 + hlen short < S.size := fun hh => by unfold getE at t2; rw [if_neg hg, if_pos hh] at t2; omega
  have hF : getF S short = okF S short := by unfold getF; rw [if_neg hg, if_neg hr]
  rw [hF] at t1
  injection t1 with i1 i2 i3 i4
  refine ⟨hz, i1, i2, ?_, by rw [hx]; exact u2, by rw [hx]; exact u1⟩
  unfold getE
  rw [if_pos]
  left
  rw [ByteArray.size_extract, hz]
  cases short <;> simp [hlen]
theorem formy (T : ByteArray) (short : Bool) (h1 : byteAt T 0 / 16 % 4 ≠ 0) (h2 : byteAt T 0 % 64 ≠ 0) : getE T short = 800 := by
  unfold getE
  rw [if_pos]
  right
  unfold clean
  cases short
  · exact h2
  · exact h1
theorem badQ (b e : Bool) (q : Int) (short : Bool) (h : ¬ (0 ≤ q ∧ q < ring short)) : putE ⟨b, e, q, ⟨#[100]⟩⟩ short = 801 ∧ putS ⟨b, e, q, ⟨#[100]⟩⟩ short = ⟨#[]⟩ := by
  have hk : ¬ PutOk ⟨b, e, q, ⟨#[100]⟩⟩ short := fun hh => h ⟨hh.1, hh.2.1⟩
  unfold putE putS
  rw [if_neg hk, if_neg hk]
  exact ⟨rfl, rfl⟩

/- The walk: the law's text returns true. -/
set_option maxRecDepth 100000 in
set_option maxHeartbeats 2000000 in
theorem walk (a0 : Int) (a1 : Bool) (a2 : Bool) (a3 : Bool) (w0 : (Lit.int .i64 a0).wf = true) (w : World) :
    Calls Try.prog 5 #[.int .i64 a0, .bool a1, .bool a2, .bool a3] w fun e w' => e = .returned (.bool true) ∧ Below w.heap.size w w' := by
  clear w0
  go_enter Try.func5, Try.ntmps5
  go_wp2_with fail
  refine (awake_any w).mono ?_
  rintro e wa ⟨rfl, O0⟩
  cases a3
  · have hring : ring false = 16777216 := rfl
    go_wp2_with fail
    refine (put_any ⟨a1, a2, a0, ⟨#[100]⟩⟩ false wa).mono ?_
    rintro e wb ⟨rfl, O1⟩
    have O2 := O0.trans O1
    clear O0 O1
    by_cases hq0 : a0 < 0
    · have d1 : decide (a0 < 0) = true := by simpa using hq0
      obtain ⟨x1, x2⟩ := badQ a1 a2 a0 false (by omega)
      rw [x1, x2]
      clear x1 x2
      go_wp2_with (go_at_call 11; refine (num_any _ _).mono ?_; rintro e w' ⟨rfl, rfl⟩)
      go_ret
      exact ⟨rfl, O2.below _ (Nat.le_refl _) (by simp)⟩
    have d1 : decide (a0 < 0) = false := by simpa using hq0
    by_cases hq1 : 16777215 < a0
    · have d2 : decide (16777215 < a0) = true := by simpa using hq1
      obtain ⟨x1, x2⟩ := badQ a1 a2 a0 false (by omega)
      rw [x1, x2]
      clear x1 x2
      go_wp2_with (go_at_call 11; refine (num_any _ _).mono ?_; rintro e w' ⟨rfl, rfl⟩)
      go_ret
      exact ⟨rfl, O2.below _ (Nat.le_refl _) (by simp)⟩
    have d2 : decide (16777215 < a0) = false := by simpa using hq1
    obtain ⟨x1, G⟩ := good a1 a2 a0 false (by omega) (by omega)
    rw [x1]
    generalize putS ⟨a1, a2, a0, ⟨#[100]⟩⟩ false = S at *
    clear x1
    obtain ⟨cap, w4, hcv, hcap, hcells, O4⟩ := bytes_of S wb
    have hS : S.size = 5 := G.size
    obtain ⟨c0, fz0⟩ := hcells 0 (by omega)
    have h0 : 0 < S.size := by omega
    have X0 := byteAt_eq S 0 h0
    have BY := byteAt_byte S 0
    have J1 : (bits .and .u8 (byteAt S 0) 128 != 0) = a1 := by rw [← G.hb, t128' _ BY]; split <;> simp <;> omega
    have J2 : (bits .and .u8 (byteAt S 0) 64 != 0) = a2 := by rw [← G.he, t64' _ BY]; split <;> simp <;> omega
    obtain ⟨y, hy, hyb, hy1, hy2⟩ := or32 (byteAt S 0) BY
    obtain ⟨T, hcb, hTs, hT0⟩ := back_of S wb.heap.size cap y w4 hyb (by omega) hcells
    have HT : Hid (getE T false = 800) := formy T false (by rw [hT0]; exact hy1) (by rw [hT0]; exact hy2)
    have HTS : Hid (T.size ≤ 9223372036854775807) := by show T.size ≤ _; omega
    have O5 : Only [] w w4 := O2.trans O4
    have hlt := World.block_lt_of_cell? w4 _ c0
    have hsz2 := O2.size
    have O6 : Below w.heap.size w (w4.setCell ⟨wb.heap.size, 0, none⟩ (.int .u8 y)) := (O5.setCell (.inr (by simp; omega)) _).below _ (Nat.le_refl _) (by simp)
    have HF : Hid (getE (S.extract 0 3) false = 800) := G.few
    have HC : Hid (getE (S.extract 0 4) false = 0) := G.cutE
    have HG : Hid (getF (S.extract 0 4) false = ⟨a1, a2, a0, ⟨#[]⟩⟩) := G.cutF
    have HZ1 : Hid ((S.extract 0 3).size ≤ 9223372036854775807) := by show (S.extract 0 3).size ≤ _; rw [ByteArray.size_extract]; omega
    have HZ2 : Hid ((S.extract 0 4).size ≤ 9223372036854775807) := by show (S.extract 0 4).size ≤ _; rw [ByteArray.size_extract]; omega
    clear O2 O4 O5 hcells BY hyb hy1 hy2 G hT0 hTs hcap hring
    generalize byteAt S 0 = x0 at *
    generalize wb.heap.size = g at *
    rw [hS] at hcb
    go_wp2_with (go_at_call 11; refine (num_any _ _).mono ?_; rintro e w' ⟨rfl, rfl⟩)
    refine (get_x T false _ HTS.out).mono ?_
    rw [HT.out]
    rintro e w6 ⟨rfl, O7⟩
    have B7 : Below w.heap.size w w6 := O6.trans (O7.below _ O6.size (by simp))
    clear O6 O7 c0 fz0 hcv hcb
    generalize getF T false = F1
    go_wp2_with fail
    have B8 := B7.trans (((Only.refl [] w6).alloc (.cells #[.bool F1.b, .bool F1.e, .int .i64 F1.q, .string F1.d] 23)).below _ B7.size (by simp))
    generalize World.alloc w6 _ = w7 at *
    refine (get_x (S.extract 0 3) false _ HZ1.out).mono ?_
    rw [HF.out]
    rintro e w8 ⟨rfl, O9⟩
    have B9 : Below w.heap.size w w8 := B8.trans (O9.below _ B8.size (by simp))
    generalize getF (S.extract 0 3) false = F2
    go_wp2_with fail
    have B10 := B9.trans (((Only.refl [] w8).alloc (.cells #[.bool F2.b, .bool F2.e, .int .i64 F2.q, .string F2.d] 23)).below _ B9.size (by simp))
    generalize World.alloc w8 _ = w9 at *
    refine (get_x (S.extract 0 4) false _ HZ2.out).mono ?_
    rw [HC.out, HG.out]
    rintro e w10 ⟨rfl, O11⟩
    have B11 : Below w.heap.size w w10 := B10.trans (O11.below _ B10.size (by simp))
    go_wp2_with (go_at_call 11; refine (num_any _ _).mono ?_; rintro e w' ⟨rfl, rfl⟩)
    go_ret
    exact ⟨by first | rfl | simp, B11.trans (((Only.refl [] w10).alloc _).below _ B11.size (by simp))⟩
  · have hring : ring true = 4096 := rfl
    go_wp2_with fail
    refine (put_any ⟨a1, a2, a0, ⟨#[100]⟩⟩ true wa).mono ?_
    rintro e wb ⟨rfl, O1⟩
    have O2 := O0.trans O1
    clear O0 O1
    by_cases hq0 : a0 < 0
    · have d1 : decide (a0 < 0) = true := by simpa using hq0
      obtain ⟨x1, x2⟩ := badQ a1 a2 a0 true (by omega)
      rw [x1, x2]
      clear x1 x2
      go_wp2_with (go_at_call 11; refine (num_any _ _).mono ?_; rintro e w' ⟨rfl, rfl⟩)
      go_ret
      exact ⟨rfl, O2.below _ (Nat.le_refl _) (by simp)⟩
    have d1 : decide (a0 < 0) = false := by simpa using hq0
    by_cases hq1 : 4095 < a0
    · have d2 : decide (4095 < a0) = true := by simpa using hq1
      obtain ⟨x1, x2⟩ := badQ a1 a2 a0 true (by omega)
      rw [x1, x2]
      clear x1 x2
      go_wp2_with (go_at_call 11; refine (num_any _ _).mono ?_; rintro e w' ⟨rfl, rfl⟩)
      go_ret
      exact ⟨rfl, O2.below _ (Nat.le_refl _) (by simp)⟩
    have d2 : decide (4095 < a0) = false := by simpa using hq1
    obtain ⟨x1, G⟩ := good a1 a2 a0 true (by omega) (by omega)
    rw [x1]
    generalize putS ⟨a1, a2, a0, ⟨#[100]⟩⟩ true = S at *
    clear x1
    obtain ⟨cap, w4, hcv, hcap, hcells, O4⟩ := bytes_of S wb
    have hS : S.size = 3 := G.size
    obtain ⟨c0, fz0⟩ := hcells 0 (by omega)
    have h0 : 0 < S.size := by omega
    have X0 := byteAt_eq S 0 h0
    have BY := byteAt_byte S 0
    have J1 : (bits .and .u8 (byteAt S 0) 128 != 0) = a1 := by rw [← G.hb, t128' _ BY]; split <;> simp <;> omega
    have J2 : (bits .and .u8 (byteAt S 0) 64 != 0) = a2 := by rw [← G.he, t64' _ BY]; split <;> simp <;> omega
    obtain ⟨y, hy, hyb, hy1, hy2⟩ := or32 (byteAt S 0) BY
    obtain ⟨T, hcb, hTs, hT0⟩ := back_of S wb.heap.size cap y w4 hyb (by omega) hcells
    have HT : Hid (getE T true = 800) := formy T true (by rw [hT0]; exact hy1) (by rw [hT0]; exact hy2)
    have HTS : Hid (T.size ≤ 9223372036854775807) := by show T.size ≤ _; omega
    have O5 : Only [] w w4 := O2.trans O4
    have hlt := World.block_lt_of_cell? w4 _ c0
    have hsz2 := O2.size
    have O6 : Below w.heap.size w (w4.setCell ⟨wb.heap.size, 0, none⟩ (.int .u8 y)) := (O5.setCell (.inr (by simp; omega)) _).below _ (Nat.le_refl _) (by simp)
    have HF : Hid (getE (S.extract 0 1) true = 800) := G.few
    have HC : Hid (getE (S.extract 0 2) true = 0) := G.cutE
    have HG : Hid (getF (S.extract 0 2) true = ⟨a1, a2, a0, ⟨#[]⟩⟩) := G.cutF
    have HZ1 : Hid ((S.extract 0 1).size ≤ 9223372036854775807) := by show (S.extract 0 1).size ≤ _; rw [ByteArray.size_extract]; omega
    have HZ2 : Hid ((S.extract 0 2).size ≤ 9223372036854775807) := by show (S.extract 0 2).size ≤ _; rw [ByteArray.size_extract]; omega
    clear O2 O4 O5 hcells BY hyb hy1 hy2 G hT0 hTs hcap hring
    generalize byteAt S 0 = x0 at *
    generalize wb.heap.size = g at *
    rw [hS] at hcb
    go_wp2_with (go_at_call 11; refine (num_any _ _).mono ?_; rintro e w' ⟨rfl, rfl⟩)
    refine (get_x T true _ HTS.out).mono ?_
    rw [HT.out]
    rintro e w6 ⟨rfl, O7⟩
    have B7 : Below w.heap.size w w6 := O6.trans (O7.below _ O6.size (by simp))
    clear O6 O7 c0 fz0 hcv hcb
    generalize getF T true = F1
    go_wp2_with fail
    have B8 := B7.trans (((Only.refl [] w6).alloc (.cells #[.bool F1.b, .bool F1.e, .int .i64 F1.q, .string F1.d] 23)).below _ B7.size (by simp))
    generalize World.alloc w6 _ = w7 at *
    refine (get_x (S.extract 0 1) true _ HZ1.out).mono ?_
    rw [HF.out]
    rintro e w8 ⟨rfl, O9⟩
    have B9 : Below w.heap.size w w8 := B8.trans (O9.below _ B8.size (by simp))
    generalize getF (S.extract 0 1) true = F2
    go_wp2_with fail
    have B10 := B9.trans (((Only.refl [] w8).alloc (.cells #[.bool F2.b, .bool F2.e, .int .i64 F2.q, .string F2.d] 23)).below _ B9.size (by simp))
    generalize World.alloc w8 _ = w9 at *
    refine (get_x (S.extract 0 2) true _ HZ2.out).mono ?_
    rw [HC.out, HG.out]
    rintro e w10 ⟨rfl, O11⟩
    have B11 : Below w.heap.size w w10 := B10.trans (O11.below _ B10.size (by simp))
    go_wp2_with (go_at_call 11; refine (num_any _ _).mono ?_; rintro e w' ⟨rfl, rfl⟩)
    go_ret
    exact ⟨by first | rfl | simp, B11.trans (((Only.refl [] w10).alloc _).below _ B11.size (by simp))⟩

/- The row's step. -/
set_option maxRecDepth 100000 in
theorem lifted (os : Os) (started : os.Started) (H : Type) (enc : TypeId × Value → H) :
    ReturnsInHanded {} Try.checked os 5 .any (Rows.mpSeqsSpec.pre6 enc Try.prog Try.f5 Rows.mpSeqsRow.domain false) (Rows.mpSeqsSpec.post enc Try.prog Try.f5 false true false false) := by
  refine returnsInHanded_of_change (C := Try.checked) own started (by kernel_rfl) Try.func5
    (ChangeSpec.witness6 (enc := enc) (C := Try.checked) false ⟨#[], #[.int .i64 0, .bool false, .bool false, .bool false], []⟩ 8 (by kernel_rfl) (by kernel_rfl) (by kernel_rfl) (by kernel_rfl)) ?_
  intro W base args ds gs before hval0 hW hcnd _
  have hval : ∀ (j : Nat) t v, Try.f5.params[j]? = some t → args[j]? = some v → Value.okWide Try.prog W .any base t v := hval0
  have hW' := hW
  obtain ⟨p, q, hA0, hV, rfl, hfz, hnd⟩ := hW
  have hA : DataW.TrodAll enc Try.prog W 0 (fun _ => true) true Try.f5.params.toList args.toList ds p := hA0
  rw [Try.params5] at hA hval
  obtain ⟨v0, vs0, d0, ds0, p0, q0, hargs, rfl, rfl, h0, r0⟩ := trodAll_cons hA
  obtain ⟨v1, vs1, d1, ds1, p1, q1, rfl, rfl, rfl, h1, r1⟩ := trodAll_cons r0
  obtain ⟨v2, vs2, d2, ds2, p2, q2, rfl, rfl, rfl, h2, r2⟩ := trodAll_cons r1
  obtain ⟨v3, vs3, d3, ds3, p3, q3, rfl, rfl, rfl, h3, r3⟩ := trodAll_cons r2
  obtain ⟨rfl, rfl, rfl⟩ := trodAll_nil r3
  obtain rfl : args = #[v0, v1, v2, v3] := by cases args; simp_all
  obtain ⟨rfl, rfl⟩ := trodVars_none hV
  obtain ⟨a0, rfl, rfl, rfl, w0⟩ := open_int Try.underlying3 (hval 0 3 v0 rfl rfl) h0
  obtain ⟨a1, rfl, rfl, rfl⟩ := open_bool Try.underlying4 (hval 1 4 v1 rfl rfl) h1
  obtain ⟨a2, rfl, rfl, rfl⟩ := open_bool Try.underlying4 (hval 2 4 v2 rfl rfl) h2
  obtain ⟨a3, rfl, rfl, rfl⟩ := open_bool Try.underlying4 (hval 3 4 v3 rfl rfl) h3
  clear hA0 hval0
  refine (walk a0 a1 a2 a3 w0 W).mono fun e W' ⟨he, hg⟩ => ?_
  subst he
  exact ⟨_, rfl, _, _, _, [], _, [], hW', (trodAll_cons_mk (shut_bool Try.underlying4 _) trodAll_mk0), (trodAll_cons_mk (shut_int Try.underlying3 w0) (trodAll_cons_mk (shut_bool Try.underlying4 _) (trodAll_cons_mk (shut_bool Try.underlying4 _) (trodAll_cons_mk (shut_bool Try.underlying4 _) trodAll_mk0)))), rfl, hg.frame _, fun h => by cases h⟩

theorem over : Rows.mpSeqsRow.holds Try.pinned (OpenSpec.ofChange Rows.mpSeqsSpec) :=
  OpenClaim.holds_of_wide 5 Try.f5 rfl rfl rfl rfl rfl rfl rfl ⟨rfl, rfl, rfl, rfl, rfl⟩ rfl rfl rfl rfl rfl (by kernel_rfl) Try.func5 (by kernel_rfl)
    (of_decide_eq_true (by kernel_rfl)) (by unfold Func.isWrapper; first | (rw [if_pos (by decide +kernel)]; kernel_rfl) | (rw [if_neg (by decide +kernel)]; exact ⟨rfl, rfl⟩))
    (fun os started H enc _ => lifted os started H enc)

/-- The statement. -/
theorem proved : Rows.MpSeqsSaid :=
  over
#print axioms proved
end Go.Proofs.Ytdpknandacoibaa.mpSeqs

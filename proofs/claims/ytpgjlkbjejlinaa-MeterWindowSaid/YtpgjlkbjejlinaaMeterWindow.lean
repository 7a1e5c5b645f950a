/- Proved here: withylaw23.MeterWindow returns true for every input and leaves its arguments as they were (the given statement Rows.MeterWindowSaid). Conditions: none. -/
import Derived.Test.YtpgjlkbjejlinaaRows
import Derived.Test.YtpgjlkbjejlinaaLaws
import Derived.Test.YtpgjlkbjejlinaaMask
import Derived.WalkKit
import Derived.Lib.Hide
import Derived.Deep.Cut
import Derived.StillTactics
import Derived.ProofKit
import Derived.OpenShut
import Derived.ShutString
import Derived.ChangeOld
import Derived.Below
namespace Go.Proofs.Ytpgjlkbjejlinaa.meterWindow
open Go.ChangeShapes Go.WideShapes Go.ChangeAt Go.RowKit
open Plain
open Go.ChangeMaps (open_string shut_string)
set_option linter.unusedVariables false

theorem own : ownKnob Try.prog.godebug = none := by kernel_rfl
theorem laidOut : laidOutB Try.prog = true := by kernel_rfl

/-- WHAT THE WALK IS TOLD OF A SLICE OF INTEGERS THAT CAME IN: it is nil; or it leads to a row of 'cap' cells, the numbers 'zs' (the first 'len' are its elements, the rest its spare room), each fitting its kind. -/
def IsRow (k : IntKind) (w : World) (a : Option Addr) (len cap : Nat) (zs : List Int) : Prop :=
  (a = none ∧ len = 0 ∧ cap = 0 ∧ zs = []) ∨
  ∃ x, a = some x ∧ len ≤ cap ∧ cap ≤ maxLen ∧ zs.length = cap ∧ (∀ i, i < zs.length → w.cell? (x.add i) = some (.int k (zs.getD i 0))) ∧ ∀ n ∈ zs, (Lit.int k n).wf = true

/-- an element of a row that came in. -/
theorem row_at {w : World} {a : Option Addr} {len cap : Nat} {zs : List Int} (h : IsRow .i64 w a len cap zs) (i : Nat) (hi : i < len) :
    ∃ b off, a = some ⟨b, off, none⟩ ∧ b < w.heap.size ∧ w.cell? ⟨b, off + i, none⟩ = some (.int .i64 (zs.getD i 0)) ∧ -9223372036854775808 ≤ zs.getD i 0 ∧ zs.getD i 0 ≤ 9223372036854775807 := by
  rcases h with ⟨_, rfl, _, _⟩ | ⟨x, rfl, hl, hm, hz, hcell, hwz⟩
  · omega
  · have hc := hcell i (by omega)
    obtain ⟨b, off, spot⟩ := x
    have hc0 := hcell 0 (by omega)
    have hspot : spot = none := by simpa [Addr.add] using World.cell?_spot hc0
    subst hspot
    rw [Addr.add_lit] at hc
    have hb := bounds_i64 (hwz (zs.getD i 0) (by rw [show zs.getD i 0 = zs[i]'(by omega) from by simp [List.getD, show i < zs.length by omega]]; exact List.getElem_mem _))
    exact ⟨b, off, rfl, World.block_lt_of_cell? w _ hc, hc, hb.1, hb.2⟩
theorem row_len {w : World} {a : Option Addr} {len cap : Nat} {zs : List Int} (h : IsRow .i64 w a len cap zs) : len ≤ 9223372036854775807 := by
  rcases h with ⟨_, rfl, _, _⟩ | ⟨x, rfl, hl, hm, _⟩
  · omega
  · unfold maxLen at hm; omega

theorem win_step (S : St) (x : Int × Int) (n c : Nat) (hl : S.W.length = n) (h1 : 1 ≤ n) (h0 : 0 ≤ S.R.long) (hc : S.R.long ≤ c) (hk : c + 1 < 4000) :
    ans 900 100 4000 S x = 0 ∧ (stTick 900 100 4000 S x).W.length = n ∧ (stTick 900 100 4000 S x).R.long ≤ ((c + 1 : Nat) : Int) ∧ (stTick 900 100 4000 S x).sh = shareOf (stTick 900 100 4000 S x).W := by
  obtain ⟨q1, q2⟩ := turn_short S.R (dirF (push S.W x) 900 100) 4000 h0 (by omega)
  refine ⟨q1, ?_, by show (turn S.R (dirF (push S.W x) 900 100) 4000).1.long ≤ _; omega, rfl⟩
  show (push S.W x).length = n
  unfold push
  simp
  omega
theorem win_ends (S : St) (x : Int × Int) (j : Nat) (h : Ends S.W j x) (hj : j < S.W.length) : Ends (stTick 900 100 4000 S x).W (j + 1) x := h.push hj

/- The walk: the law's text returns true. -/
set_option maxRecDepth 100000 in
set_option maxHeartbeats 2000000 in
theorem walk (a0 : Int) (a1 : Option Addr) (len1 cap1 : Nat) (z1 : List Int) (a2 : Int) (w : World) (w0 : (Lit.int .i64 a0).wf = true) (w1 : IsRow .i64 w a1 len1 cap1 z1) (w2 : (Lit.int .i64 a2).wf = true) :
    Calls Try.prog 8 #[.int .i64 a0, .slice a1 len1 cap1, .int .i64 a2] w fun e w' => e = .returned (.bool true) ∧ Below w.heap.size w w' := by
  have L0 := and_15 a0
  have M0 := and_1023 a2
  have hlen1 := row_len w1
  clear w0 w2
  go_enter Try.func8, Try.ntmps8
  go_wp2_with fail
  refine (awake_any w).mono ?_
  rintro e wa ⟨rfl, O0⟩
  have r31 : 0 ≤ a0 % 16 := by omega
  have r32 : a0 % 16 < 16 := by omega
  have x1 : 0 ≤ a2 % 1024 := by omega
  have x2 : a2 % 1024 ≤ 1023 := by omega
  generalize a0 % 16 = q at *
  generalize a2 % 1024 = x at *
  have HM : Hid (mayB (1 + q) 900 100 4000 = true) := by show _ = _; simp [mayB]; omega
  go_wp2_with fail
  refine (new_st (1 + q) 900 100 4000 wa HM.out).mono ?_
  rintro e wb ⟨p, rr, rfl, m1, O1, hp, hr⟩
  have B0 : Below w.heap.size w wb := (O0.trans O1).below _ (Nat.le_refl _) (by simp)
  have hsz := O0.size
  obtain ⟨n, hn⟩ : ∃ n : Nat, n = (1 + q).toNat := ⟨_, rfl⟩
  have HW0 : Hid ((st0 (1 + q)).W.length = n) := by show _ = _; rw [hn]; simp [st0, zeros]
  have HR0 : Hid ((st0 (1 + q)).R.long = 0) := rfl
  have n1 : (n : Int) = 1 + q := by omega
  clear hn
  generalize st0 (1 + q) = S0 at *
  clear O0 O1 HM
  go_wp2_with fail
  go_loopw [10] (fun i wr => ∃ (t : Nat) (S : St), t ≤ len1 ∧ t ≤ 50 ∧ i = .int .i64 t ∧ MS wr p rr 900 100 4000 S ∧ S.W.length = n ∧ S.R.long ≤ (t : Int) ∧ Below w.heap.size w wr) (fun i _ => 50 - (intOf i).toNat)
  case atStart => exact ⟨0, S0, by omega, by omega, rfl, m1, HW0.out, by rw [HR0.out]; omega, B0⟩
  case round =>
    clear HW0 HR0 B0 m1
    obtain ⟨t, S, ht1, ht2, rfl, m, hW, hR, hbel⟩ := hrel
    have HW := Lib.hid hW
    have HR := Lib.hid hR
    have HN : Hid True := trivial
    by_cases hl1 : t < len1
    rotate_left
    · have d1 : decide (t < len1) = false := by simp; omega
      clear hW hR
      clear HN
      go_wp2
      go_loopw [12] (fun i wr => ∃ (j : Nat) (S : St), j ≤ n ∧ i = .int .i64 j ∧ MS wr p rr 900 100 4000 S ∧ S.W.length = n ∧ Ends S.W j (x, 1023) ∧ S.R.long ≤ ((50 + j : Nat) : Int) ∧ (1 ≤ j → S.sh = shareOf S.W) ∧ Below w.heap.size w wr) (fun i _ => 20 - (intOf i).toNat)
      case atStart => exact ⟨0, S, by omega, rfl, m, HW.out, ⟨S.W, by simp⟩, by have := HR.out; omega, by omega, hbel⟩
      case round =>
        clear HW HR m hbel
        obtain ⟨j, S, hj, rfl, m, hW, hE, hR, hS, hbel⟩ := hrel
        by_cases hlj : j < n
        · have d3 : decide ((j : Int) < 1 + q) = true := by simp; omega
          obtain ⟨st1, st2, st3, st4⟩ := win_step S (x, 1023) n (50 + j) hW (by omega) m.r1 hR (by omega)
          have st5 := win_ends S (x, 1023) j hE (by omega)
          have HAN := Lib.hid st1
          have HW2 := Lib.hid st2
          have HR2 := Lib.hid st3
          have HS2 := Lib.hid st4
          have HE2 := Lib.hid st5
          clear st1 st2 st3 st4 st5 hW hR hS hE
          go_wp2_with fail
          refine (tick_any p rr 900 100 4000 x 1023 S _ m ⟨x1, by show x ≤ _; omega, by omega, by omega⟩).mono ?_
          rw [HAN.out]
          rintro e w2 ⟨rfl, m2, O2⟩
          have B2 : Below w.heap.size w w2 := hbel.trans (O2.below _ hbel.size (by simp; omega))
          generalize stTick 900 100 4000 S (x, 1023) = T at *
          clear m O2 hbel HAN
          go_wp2_with (go_at_call 12; refine (num_any _ _).mono ?_; rintro e w' ⟨rfl, rfl⟩)
          go_roundw
          case rel => exact ⟨j + 1, T, by omega, by go_num, m2, HW2.out, HE2.out, by have := HR2.out; omega, fun _ => HS2.out, B2⟩
          case measure => simp [intOf]; omega
        · have d3 : decide ((j : Int) < 1 + q) = false := by simp; omega
          have HSH : Hid (S.sh = 1000 * x / 1023) := by
            show _ = _
            rw [hS (by omega), hE.whole (by omega)]
            exact share_rep j x (by omega) (by omega) x1 x2
          clear hW hR hS hE
          go_wp2_with (first | (go_at_call 12; refine (num_any _ _).mono ?_; rintro e w' ⟨rfl, rfl⟩) | (go_at_call 16; refine (share_st p rr 900 100 4000 S _ m).mono ?_; rw [HSH.out]; rintro e w' ⟨rfl, rfl⟩))
          go_ret
          exact ⟨by first | rfl | simp, hbel⟩
    have d1 : decide (t < len1) = true := by simp; omega
    by_cases hl2 : t < 50
    rotate_left
    · have d2 : decide ((t : Int) < 50) = false := by simp; omega
      clear hW hR
      clear HN
      go_wp2
      go_loopw [12] (fun i wr => ∃ (j : Nat) (S : St), j ≤ n ∧ i = .int .i64 j ∧ MS wr p rr 900 100 4000 S ∧ S.W.length = n ∧ Ends S.W j (x, 1023) ∧ S.R.long ≤ ((50 + j : Nat) : Int) ∧ (1 ≤ j → S.sh = shareOf S.W) ∧ Below w.heap.size w wr) (fun i _ => 20 - (intOf i).toNat)
      case atStart => exact ⟨0, S, by omega, rfl, m, HW.out, ⟨S.W, by simp⟩, by have := HR.out; omega, by omega, hbel⟩
      case round =>
        clear HW HR m hbel
        obtain ⟨j, S, hj, rfl, m, hW, hE, hR, hS, hbel⟩ := hrel
        by_cases hlj : j < n
        · have d3 : decide ((j : Int) < 1 + q) = true := by simp; omega
          obtain ⟨st1, st2, st3, st4⟩ := win_step S (x, 1023) n (50 + j) hW (by omega) m.r1 hR (by omega)
          have st5 := win_ends S (x, 1023) j hE (by omega)
          have HAN := Lib.hid st1
          have HW2 := Lib.hid st2
          have HR2 := Lib.hid st3
          have HS2 := Lib.hid st4
          have HE2 := Lib.hid st5
          clear st1 st2 st3 st4 st5 hW hR hS hE
          go_wp2_with fail
          refine (tick_any p rr 900 100 4000 x 1023 S _ m ⟨x1, by show x ≤ _; omega, by omega, by omega⟩).mono ?_
          rw [HAN.out]
          rintro e w2 ⟨rfl, m2, O2⟩
          have B2 : Below w.heap.size w w2 := hbel.trans (O2.below _ hbel.size (by simp; omega))
          generalize stTick 900 100 4000 S (x, 1023) = T at *
          clear m O2 hbel HAN
          go_wp2_with (go_at_call 12; refine (num_any _ _).mono ?_; rintro e w' ⟨rfl, rfl⟩)
          go_roundw
          case rel => exact ⟨j + 1, T, by omega, by go_num, m2, HW2.out, HE2.out, by have := HR2.out; omega, fun _ => HS2.out, B2⟩
          case measure => simp [intOf]; omega
        · have d3 : decide ((j : Int) < 1 + q) = false := by simp; omega
          have HSH : Hid (S.sh = 1000 * x / 1023) := by
            show _ = _
            rw [hS (by omega), hE.whole (by omega)]
            exact share_rep j x (by omega) (by omega) x1 x2
          clear hW hR hS hE
          go_wp2_with (first | (go_at_call 12; refine (num_any _ _).mono ?_; rintro e w' ⟨rfl, rfl⟩) | (go_at_call 16; refine (share_st p rr 900 100 4000 S _ m).mono ?_; rw [HSH.out]; rintro e w' ⟨rfl, rfl⟩))
          go_ret
          exact ⟨by first | rfl | simp, hbel⟩
    have d2 : decide ((t : Int) < 50) = true := by simp; omega
    obtain ⟨b1, off1, rfl, hbl1, hc1, hz11, hz12⟩ := row_at w1 t hl1
    have hcr1 : wr.cell? ⟨b1, off1 + t, none⟩ = some (.int .i64 (z1.getD t 0)) := (hbel.cell hbl1).trans hc1
    generalize z1.getD t 0 = y at *
    have m1 := and_1023 y
    have m2 := and_1023 (y / 16)
    clear hc1
    go_wp2_with fail
    refine wp_region_free 13 [] [13] mixed (by kernel_rfl) (fun d v c a w h => by cases d <;> exact h) ?_
    simp only [Region.heads, List.range, List.range.loop, List.filter_cons, List.filter_nil, List.contains_cons, List.contains_nil, Nat.reduceBEq, Bool.or_false, Bool.not_true, Bool.not_false, Bool.false_eq_true, if_false, if_true, List.cons_append, List.nil_append, List.filterMap_cons, List.filterMap_nil, List.getElem?_cons_succ, List.getElem?_cons_zero, BEq.rfl]
    repeat (refine wpStill_op rfl rfl (fun K hK => ?_); go_step; refine hK _ ?_; clear hK K)
    refine wpStill_nil ?_
    have t1 : 0 ≤ y % 1024 ∧ y % 1024 < 1024 := by omega
    have t2 : 0 ≤ y / 16 % 1024 ∧ y / 16 % 1024 < 1024 := by omega
    clear m1 m2 hcr1
    generalize y / 16 % 1024 = s at *
    generalize y % 1024 = c at *
    obtain ⟨t11, t12⟩ := t1
    obtain ⟨t21, t22⟩ := t2
    obtain ⟨st1, st2, st3, st4⟩ := win_step S (c, 1 + s) n t hW (by omega) m.r1 hR (by omega)
    have HAN := Lib.hid st1
    have HW2 := Lib.hid st2
    have HR2 := Lib.hid st3
    clear st1 st2 st3 st4 hW hR HW HR
    go_wp2_with fail
    refine (tick_any p rr 900 100 4000 c (1 + s) S _ (m.only (Only.drew (Only.refl [] _)) (by simp) (by simp)) ⟨t11, by show c ≤ _; omega, by show 0 ≤ 1 + s; omega, by show 1 + s ≤ _; omega⟩).mono ?_
    rintro e w2 ⟨rfl, m2, O2⟩
    have B2 : Below w.heap.size w w2 := hbel.drew.trans (O2.below _ hbel.drew.size (by simp; omega))
    generalize stTick 900 100 4000 S (c, 1 + s) = T at *
    clear m O2 hbel HAN
    go_wp2
    go_roundw
    case rel => exact ⟨t + 1, T, by omega, by omega, by go_num, m2, HW2.out, by have := HR2.out; omega, B2⟩
    case measure => simp [intOf]; omega

/- The row's step. -/
set_option maxRecDepth 100000 in
theorem lifted (os : Os) (started : os.Started) (H : Type) (enc : TypeId × Value → H) :
    ReturnsInHanded {} Try.checked os 8 .any (Rows.meterWindowSpec.pre6 enc Try.prog Try.f8 Rows.meterWindowRow.domain false) (Rows.meterWindowSpec.post enc Try.prog Try.f8 false true false false) := by
  refine returnsInHanded_of_change (C := Try.checked) own started (by kernel_rfl) Try.func8
    (ChangeSpec.witness6 (enc := enc) (C := Try.checked) false ⟨#[], #[.int .i64 0, .slice none 0 0, .int .i64 0], []⟩ 8 (by kernel_rfl) (by kernel_rfl) (by kernel_rfl) (by kernel_rfl)) ?_
  intro W base args ds gs before hval0 hW hcnd _
  have hval : ∀ (j : Nat) t v, Try.f8.params[j]? = some t → args[j]? = some v → Value.okWide Try.prog W .any base t v := hval0
  have hW' := hW
  obtain ⟨p, q, hA0, hV, rfl, hfz, hnd⟩ := hW
  have hA : DataW.TrodAll enc Try.prog W 0 (fun _ => true) true Try.f8.params.toList args.toList ds p := hA0
  rw [Try.params8] at hA hval
  obtain ⟨v0, vs0, d0, ds0, p0, q0, hargs, rfl, rfl, h0, r0⟩ := trodAll_cons hA
  obtain ⟨v1, vs1, d1, ds1, p1, q1, rfl, rfl, rfl, h1, r1⟩ := trodAll_cons r0
  obtain ⟨v2, vs2, d2, ds2, p2, q2, rfl, rfl, rfl, h2, r2⟩ := trodAll_cons r1
  obtain ⟨rfl, rfl, rfl⟩ := trodAll_nil r2
  obtain rfl : args = #[v0, v1, v2] := by cases args; simp_all
  obtain ⟨rfl, rfl⟩ := trodVars_none hV
  obtain ⟨a0, rfl, rfl, rfl, w0⟩ := open_int Try.underlying3 (hval 0 3 v0 rfl rfl) h0
  obtain ⟨a1, len1, cap1, rfl⟩ := okWide_slice Try.underlying22 (hval 1 22 v1 rfl rfl)
  have k1 := h1
  have lt1 : ∀ x ∈ p1, x.block < W.heap.size := by obtain ⟨m, hm⟩ := k1; exact DataW.trod_lt m _ _ _ hm
  obtain ⟨z1, w1⟩ : ∃ zs, IsRow .i64 W a1 len1 cap1 zs := by
    obtain ⟨fuel, hf⟩ := h1
    rcases open_ints Try.underlying22 Try.underlying3 (by kernel_rfl) hf with ⟨hcs, _⟩ | ⟨x, l, c, zs, hcs, _, hl, hm, hz, _, hcell, hwz⟩
    · simp [Value.cells] at hcs
      obtain ⟨rfl, rfl, rfl⟩ := hcs
      exact ⟨[], .inl ⟨rfl, rfl, rfl, rfl⟩⟩
    · simp [Value.cells] at hcs
      obtain ⟨rfl, rfl, rfl⟩ := hcs
      exact ⟨zs, .inr ⟨_, rfl, hl, hm, by simpa using hz, hcell, hwz⟩⟩
  obtain ⟨a2, rfl, rfl, rfl, w2⟩ := open_int Try.underlying3 (hval 2 3 v2 rfl rfl) h2
  clear hA0 hval0
  refine (walk a0 a1 len1 cap1 z1 a2 W w0 w1 w2).mono fun e W' ⟨he, bel⟩ => ?_
  subst he
  exact ⟨_, rfl, _, _, _, [], _, [], hW', trodAll_mk1 (shut_bool Try.underlying4 _), (trodAll_cons_mk (shut_int Try.underlying3 w0) (trodAll_cons_mk (Below.trod laidOut (by kernel_rfl) (of_decide_eq_true (by kernel_rfl)) k1 bel lt1) (trodAll_cons_mk (shut_int Try.underlying3 w2) trodAll_mk0))), rfl, bel.frame _, fun h => by cases h⟩

theorem over : Rows.meterWindowRow.holds Try.pinned (OpenSpec.ofChange Rows.meterWindowSpec) :=
  OpenClaim.holds_of_wide 8 Try.f8 rfl rfl rfl rfl rfl rfl rfl ⟨rfl, rfl, rfl, rfl, rfl⟩ rfl rfl rfl rfl rfl (by kernel_rfl) Try.func8 (by kernel_rfl)
    (of_decide_eq_true (by kernel_rfl)) (by unfold Func.isWrapper; first | (rw [if_pos (by decide +kernel)]; kernel_rfl) | (rw [if_neg (by decide +kernel)]; exact ⟨rfl, rfl⟩))
    (fun os started H enc _ => lifted os started H enc)

/-- The statement. -/
theorem proved : Rows.MeterWindowSaid := over
#print axioms proved
end Go.Proofs.Ytpgjlkbjejlinaa.meterWindow

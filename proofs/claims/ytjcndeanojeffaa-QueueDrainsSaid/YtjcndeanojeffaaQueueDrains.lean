/- Proved here: withylaw20.QueueDrains returns true for every input and leaves its arguments as they were (the given statement Rows.QueueDrainsSaid). Conditions: none. -/
import Derived.Test.YtjcndeanojeffaaRows
import Derived.Test.YtjcndeanojeffaaDrains
import Derived.Test.YtjcndeanojeffaaMask
import Derived.Lib.Hide
import Derived.Deep.Cut
import Derived.StillTactics
import Derived.SliceStrings
import Derived.WalkKit
import Derived.SizedLaws
import Derived.ProofKit
import Derived.OpenShut
import Derived.ShutString
import Derived.ChangeOld
import Derived.Below
namespace Go.Proofs.Ytjcndeanojeffaa.queueDrains
open Go.ChangeShapes Go.WideShapes Go.ChangeAt Go.RowKit
open Plain
open Go.ChangeMaps (open_string shut_string)
set_option linter.unusedVariables false

theorem own : ownKnob Try.prog.godebug = none := by kernel_rfl
theorem laidOut : laidOutB Try.prog = true := by kernel_rfl

/-- a row of strings that came in. -/
def StrRow (w : World) (a : Option Addr) (len : Nat) (ss : List ByteArray) : Prop :=
  (a = none ∧ len = 0) ∨ ∃ x : Addr, a = some x ∧ len ≤ maxLen ∧ ∀ i, i < len → w.cell? (x.add i) = some (.string (ss.getD i ByteArray.empty)) ∧ (ss.getD i ByteArray.empty).size ≤ maxLen
theorem strRow_at {w : World} {a : Option Addr} {len : Nat} {ss : List ByteArray} (h : StrRow w a len ss) (i : Nat) (hi : i < len) :
    ∃ b off, a = some ⟨b, off, none⟩ ∧ b < w.heap.size ∧ w.cell? ⟨b, off + i, none⟩ = some (.string (ss.getD i ByteArray.empty)) ∧ (ss.getD i ByteArray.empty).size ≤ 9223372036854775807 := by
  rcases h with ⟨_, rfl⟩ | ⟨⟨b, off, spot⟩, rfl, _, hc⟩
  · omega
  · obtain ⟨h1, h2⟩ := hc i hi
    have hs : spot = none := by simpa [Addr.add] using World.cell?_spot (hc 0 (by omega)).1
    subst hs
    rw [Addr.add_lit] at h1
    exact ⟨b, off, rfl, World.block_lt_of_cell? w _ h1, h1, by unfold maxLen at h2; omega⟩
theorem strRow_len {w : World} {a : Option Addr} {len : Nat} {ss : List ByteArray} (h : StrRow w a len ss) : len ≤ 9223372036854775807 := by
  rcases h with ⟨_, rfl⟩ | ⟨_, _, hl, _⟩
  · omega
  · unfold maxLen at hl; omega

/- The walk: the law's text returns true. -/
set_option maxRecDepth 100000 in
set_option maxHeartbeats 2000000 in
theorem walk (a0 : Option Addr) (len0 cap0 : Nat) (z0 : List ByteArray) (a1 : Int) (w1 : (Lit.int .i64 a1).wf = true) (a2 : Int) (w2 : (Lit.int .i64 a2).wf = true) (a3 : Int) (w3 : (Lit.int .i64 a3).wf = true) (w : World) (w0 : StrRow w a0 len0 z0) :
    Calls Try.prog 6 #[.slice a0 len0 cap0, .int .i64 a1, .int .i64 a2, .int .i64 a3] w fun e w' => e = .returned (.bool true) ∧ Below w.heap.size w w' := by
  have L0 := and_31 a1
  have L1 := and_1 a2
  have L2 := and_15 a3
  have hlen := strRow_len w0
  clear w1 w2 w3
  go_enter Try.func6, Try.ntmps6
  go_wp2_with fail
  refine (awake_any w).mono ?_
  rintro e wa ⟨rfl, O0⟩
  have r1 : 0 ≤ a1 % 32 := by omega
  have r2 : a1 % 32 < 32 := by omega
  have r3 : 0 ≤ a2 % 2 := by omega
  have r4 : a2 % 2 < 2 := by omega
  have r5 : 0 ≤ a3 % 16 := by omega
  have r6 : a3 % 16 < 16 := by omega
  generalize a1 % 32 = q at *
  generalize a2 % 2 = d at *
  generalize a3 % 16 = tk at *
  go_wp2_with fail
  refine (qp_new (8 + q) false wa (by omega) (by omega)).mono ?_
  rintro e wb ⟨p, rfl, h0⟩
  have HB := Lib.hid (fun (w' : World) (o : Only [] wa w') => (O0.trans o).below w.heap.size (Nat.le_refl _) (by simp))
  clear O0
  go_wp2_with (go_at_call 13; refine (num_any _ _).mono ?_; rintro e w' ⟨rfl, rfl⟩)
  refine (qp_add h0 0 (by omega) (by omega)).mono ?_
  rintro e wc ⟨rfl, h1⟩
  clear h0
  go_wp2_with fail
  refine (qp_add h1 1 (by omega) (by omega)).mono ?_
  rintro e wd ⟨rfl, h2⟩
  have h2' : QP wa p [] (startQ (8 + q)) wd := h2
  obtain ⟨hDr, hc0⟩ := Dr.start (8 + q)
  have HC0 := Lib.hid (And.intro h2' (And.intro hDr hc0))
  clear h1 h2 h2' hDr hc0
  go_wp2_with fail
  go_loopw [12] (fun i wr => ∃ (t : Nat) (S : Q), i = .int .i64 t ∧ t ≤ 8 ∧ t ≤ len0 ∧ QP wa p [] S wr ∧ Dr S ∧ S.cut + S.packs.length ≤ (t : Int)) (fun i _ => 8 - (intOf i).toNat)
  case atStart => exact ⟨0, _, rfl, by omega, by omega, HC0.out.1, HC0.out.2.1, HC0.out.2.2⟩
  case round =>
    clear HC0
    obtain ⟨t, S, rfl, ht, htl, hS, hK, hcp⟩ := hrel
    have hb := HB.out wr hS.only
    have HX := Lib.hid (And.intro hS (And.intro hK hcp))
    clear hS hK hcp
    by_cases hl : t < len0 ∧ t < 8
    · obtain ⟨hl1, hl2⟩ := hl
      have d1 : decide (t < len0) = true := by simp; omega
      have d2 : decide ((t : Int) < 8) = true := by simp; omega
      obtain ⟨b0, off0, rfl, hbl0, hc0, hsz⟩ := strRow_at w0 t hl1
      have hcr : wr.cell? ⟨b0, off0 + t, none⟩ = some (.string (z0.getD t ByteArray.empty)) := (hb.cell hbl0).trans hc0
      generalize z0.getD t ByteArray.empty = sx at *
      clear hc0 hbl0 hb
      have HSub := Lib.hid (qp_submit HX.out.1 sx hsz (by have := HX.out.2.2; omega))
      clear hsz
      go_wp2_with fail
      refine HSub.out.mono ?_
      rintro e we ⟨rfl, h3⟩
      clear HSub
      go_wp2_with fail
      go_roundw
      case rel => exact ⟨t + 1, _, by go_num, by omega, by omega, h3, HX.out.2.1.submit sx (by have := HX.out.2.2; omega), by have := submit_len S sx HX.out.2.2; omega⟩
      case measure => simp [intOf]; omega
    · have HX1 := Lib.hid (And.intro HX.out.1 HX.out.2.1)
      clear HX hb
      have hdd : (decide (t < len0) = false) ∨ (decide (t < len0) = true ∧ decide ((t : Int) < 8) = false) := by
        by_cases h1 : t < len0
        · right
          refine ⟨by simpa using h1, by simp; omega⟩
        · left
          simpa using h1
      have HX2 := Lib.hid (fun (w' : World) (o : Only [] wa w') => HB.out w' o)
      rcases hdd with d1 | ⟨d1, d2⟩ <;> go_upto_region 13 with fail
      all_goals
        (try clear d1)
        (try clear d2)
        clear hl
        go_wp2_with fail
        go_loopw [13] (fun i wr => ∃ (t : Nat) (S : Q), i = .int .i64 t ∧ (t : Int) ≤ tk ∧ QP wa p [] S wr ∧ Dr S) (fun i _ => 16 - (intOf i).toNat)
        case atStart => exact ⟨0, S, rfl, by omega, HX1.out.1, HX1.out.2⟩
        case round =>
          clear HX1
          obtain ⟨u, T, rfl, hu, hT, hTK⟩ := hrel
          have HT := Lib.hid (And.intro hT hTK)
          clear hT hTK
          by_cases hlu : (u : Int) < tk
          · have d3 : decide ((u : Int) < tk) = true := by simpa using hlu
            have L3 := and_1 (u : Int)
            have q1 : 0 ≤ (u : Int) % 2 := by omega
            have q2 : (u : Int) % 2 < 2 := by omega
            generalize (u : Int) % 2 = k at *
            go_wp2_with fail
            refine (qp_take HT.out.1 k (by omega) (by omega)).mono ?_
            rintro e we ⟨rfl, h3⟩
            have H3 := Lib.hid h3
            clear h3
            go_wp2_with fail
            go_roundw
            case rel => exact ⟨u + 1, _, by go_num, by omega, H3.out, HT.out.2.take HT.out.1.ok (by omega)⟩
            case measure => simp [intOf]; omega
          · have d3 : decide ((u : Int) < tk) = false := by simpa using hlu
            obtain ⟨hDd, hwl, hde⟩ := HT.out.2.drain (d := d) (by omega)
            have hwt := qp_waits HT.out.1 d (by omega) (by omega)
            rw [waits_wl, ← hwl d] at hwt
            have hdr := qp_drain HT.out.1 d (by omega) (by omega)
            rw [hde, if_pos rfl] at hdr
            have hrest := HT.out.2.rest HT.out.1.ok d (1 - d)
            have hleft := HT.out.2.left d
            rw [← hwl d] at hleft
            have HDR := Lib.hid hdr
            generalize T.drainS d = U at *
            generalize hn : wl U.lanes d = n at *
            have HWT := Lib.hid hwt
            have HDd := Lib.hid (And.intro hDd (And.intro hrest (And.intro hleft hn)))
            have hn256 : n ≤ 256 := hleft
            clear hwt hDd hwl hde hdr HT hrest hleft hn
            go_upto_region 17 with fail
            go_upto_region 18 with (go_at_call 12; refine HWT.out.mono ?_; rintro e w' ⟨rfl, rfl⟩)
            clear HWT
            go_wp2_with fail
            refine HDR.out.mono ?_
            rintro e w1 ⟨rfl, h1⟩
            clear HDR
            have hdp := qp_drop h1 d (by omega) (by omega)
            rw [HDd.out.1.dropE, HDd.out.2.2.2] at hdp
            clear h1
            by_cases hz : n = 0
            · rw [if_pos hz] at hdp
              have HDP := Lib.hid hdp
              have d4 : ((n : Int) == 0) = true := by simpa using hz
              have d5 : decide (n = 0) = true := by simpa using hz
              have d6 : decide ((n : Int) = 0) = true := by simpa using hz
              have d7 : (n : Int) = 0 := by omega
              have HG := Lib.hid (HDd.out.1.gone (by rw [HDd.out.2.2.2]; exact hz))
              clear hdp hz HDd
              go_wp2_with fail
              refine HDP.out.mono ?_
              rintro e w2 ⟨rfl, h2⟩
              clear HDP
              have htk := qp_take h2 d (by omega) (by omega)
              rw [HG.out] at htk
              have HTK := Lib.hid htk
              clear htk h2
              go_wp2_with (go_at_call 13; refine (num_any _ _).mono ?_; rintro e w' ⟨rfl, rfl⟩)
              refine HTK.out.mono ?_
              rintro e w3 ⟨rfl, h3⟩
              clear HTK
              generalize (U.dropS d).takeF d = g1 at *
              have h4 := h3.quiet ((Only.refl [] w3).alloc (.cells #[.bool g1.b, .bool g1.e, .int .i64 g1.q, .string g1.d] 32))
              have HFin := Lib.hid (HX2.out _ h4.only)
              clear h3 h4
              simp only [frV]
              go_upto_region 24 with fail
              generalize w3.alloc (.cells #[.bool g1.b, .bool g1.e, .int .i64 g1.q, .string g1.d] 32) = w4 at *
              go_wp2_with (go_at_call 13; refine (num_any _ _).mono ?_; rintro e w' ⟨rfl, rfl⟩)
              go_ret
              exact ⟨by first | rfl | simp, HFin.out⟩
            · rw [if_neg hz] at hdp
              have hds : U.dropS d = U := by
                unfold Q.dropS
                rw [if_neg (by rw [HDd.out.1.dropE, HDd.out.2.2.2, if_neg hz]; decide)]
              rw [hds] at hdp
              have HDP := Lib.hid hdp
              have d4 : ((n : Int) == 0) = false := by simpa using hz
              have d5 : decide (n = 0) = false := by simpa using hz
              have d6 : decide ((n : Int) = 0) = false := by simpa using hz
              have d7 : ¬ (n : Int) = 0 := by omega
              clear hdp hz hds
              go_wp2_with fail
              refine HDP.out.mono ?_
              rintro e w2 ⟨rfl, h2⟩
              have H2 := Lib.hid h2
              clear HDP h2
              go_wp2_with (go_at_call 13; refine (num_any _ _).mono ?_; rintro e w' ⟨rfl, rfl⟩)
              go_loopw [14, 19] (fun l i wr => ∃ (t n : Nat) (S : Q), l = .int .i64 n ∧ i = .int .i64 t ∧ t ≤ 1000 ∧ wl S.lanes d = n ∧ QP wa p [] S wr ∧ Dd S d ∧ (Plain.rest S (1 - d) + t ≤ 512 ∨ Plain.rest S (1 - d) = 0) ∧ (n + (t + 2) / 3 ≤ 256 ∨ n = 0)) (fun _ i _ => 1000 - (intOf i).toNat)
              case atStart => exact ⟨0, n, U, rfl, rfl, by omega, HDd.out.2.2.2, H2.out, HDd.out.1, .inl (by have := HDd.out.2.1; omega), .inl (by omega)⟩
              case round =>
                clear H2 HDd d4 d5 d6 d7 hn256
                obtain ⟨t, n, S, rfl, rfl, ht, hn, hS, hD, hR, hL⟩ := hrel
                by_cases hlt : t < 1000
                · have d5 : decide ((t : Int) < 1000) = true := by simp; omega
                  obtain ⟨hD2, hw2, hr2⟩ := hD.takeO hS.ok
                  have htk := qp_take hS (1 - d) (by omega) (by omega)
                  have hn2 := hw2.trans hn
                  have hnn : n ≤ 256 := by omega
                  have HTK := Lib.hid htk
                  generalize S.takeS (1 - d) = S2 at *
                  have HA := Lib.hid (show (Plain.rest S2 (1 - d) + (t + 1) ≤ 512 ∨ Plain.rest S2 (1 - d) = 0) from by omega)
                  have HL := Lib.hid hL
                  have HD := Lib.hid (And.intro hD2 hn2)
                  have dne : ((n : Int) != (n : Int)) = false := by simp
                  clear htk hw2 hr2 hn hn2 hS hD hD2 hR hL
                  go_wp2_with fail
                  refine HTK.out.mono ?_
                  rintro e w3 ⟨rfl, h3⟩
                  clear HTK
                  have hwt := qp_waits h3 d (by omega) (by omega)
                  rw [waits_wl, HD.out.2] at hwt
                  by_cases c3 : t % 3 = 0
                  · by_cases c4 : 0 < n
                    · have d8 : ((t : Int) % 3 == 0) = true := by simp; omega
                      have d9 : decide (0 < n) = true := by simpa using c4
                      have d10 : decide (0 < (n : Int)) = true := by simpa using c4
                      obtain ⟨k1, k2, k3, k4⟩ := HD.out.1.takeD h3.ok (by rw [HD.out.2]; exact c4)
                      rw [HD.out.2] at k3
                      have htk := qp_take h3 d (by omega) (by omega)
                      rw [k1] at htk
                      have HT2 := Lib.hid htk
                      have HK := Lib.hid (And.intro k2 (And.intro k3 k4))
                      clear k1 k2 k3 k4 htk h3
                      go_wp2_with (first | (go_at_call 13; refine (num_any _ _).mono ?_; rintro e w' ⟨rfl, rfl⟩) | (go_at_call 12; refine hwt.mono ?_; rintro e w' ⟨rfl, rfl⟩))
                      refine HT2.out.mono ?_
                      rintro e w4 ⟨rfl, h4⟩
                      clear HT2 hwt
                      generalize S2.takeF d = g1 at *
                      have h5 := h4.quiet ((Only.refl [] w4).alloc (.cells #[.bool g1.b, .bool g1.e, .int .i64 g1.q, .string g1.d] 32))
                      have H5 := Lib.hid h5
                      clear h4 h5
                      simp only [frV]
                      go_upto_region 33 with fail
                      generalize w4.alloc (.cells #[.bool g1.b, .bool g1.e, .int .i64 g1.q, .string g1.d] 32) = w5 at *
                      go_wp2_with (go_at_call 13; refine (num_any _ _).mono ?_; rintro e w' ⟨rfl, rfl⟩)
                      go_roundw
                      case rel => exact ⟨t + 1, n - 1, S2.takeS d, by congr 1; omega, by go_num, by omega, by have := HK.out.2.1; omega, H5.out, HK.out.1, by have := HA.out; rw [HK.out.2.2]; exact this, by have := HL.out; omega⟩
                      case measure => simp [intOf]; omega
                    · have d8 : ((t : Int) % 3 == 0) = true := by simp; omega
                      have d9 : decide (0 < n) = false := by simpa using c4
                      have d10 : decide (0 < (n : Int)) = false := by simp; omega
                      have H3 := Lib.hid h3
                      clear h3
                      go_wp2_with (first | (go_at_call 13; refine (num_any _ _).mono ?_; rintro e w' ⟨rfl, rfl⟩) | (go_at_call 12; refine hwt.mono ?_; rintro e w' ⟨rfl, rfl⟩))
                      go_roundw
                      case rel => exact ⟨t + 1, n, S2, rfl, by go_num, by omega, HD.out.2, H3.out, HD.out.1, HA.out, by omega⟩
                      case measure => simp [intOf]; omega
                  · have d8 : ((t : Int) % 3 == 0) = false := by simp; omega
                    have H3 := Lib.hid h3
                    clear h3
                    go_wp2_with (first | (go_at_call 13; refine (num_any _ _).mono ?_; rintro e w' ⟨rfl, rfl⟩) | (go_at_call 12; refine hwt.mono ?_; rintro e w' ⟨rfl, rfl⟩))
                    go_roundw
                    case rel => exact ⟨t + 1, n, S2, rfl, by go_num, by omega, HD.out.2, H3.out, HD.out.1, HA.out, by have := HL.out; omega⟩
                    case measure => simp [intOf]; omega
                · have d5 : decide ((t : Int) < 1000) = false := by simp; omega
                  obtain ⟨q1, q2, q3, q4⟩ := hD.done hS.ok (by omega) (by omega)
                  have htk := qp_take hS d (by omega) (by omega)
                  rw [q1, q2] at htk
                  have HTK := Lib.hid htk
                  have HQ := Lib.hid (And.intro q3 q4)
                  clear htk q1 q2 q3 q4 hS hD hR hL hn
                  go_wp2_with fail
                  refine HTK.out.mono ?_
                  rintro e w3 ⟨rfl, h3⟩
                  clear HTK
                  generalize S.takeF d = g1 at *
                  have h4 := h3.quiet ((Only.refl [] w3).alloc (.cells #[.bool g1.b, .bool g1.e, .int .i64 g1.q, .string g1.d] 32))
                  clear h3
                  have hdp := fun w' (h : QP wa p [] S w') => qp_drop h d (by omega) (by omega)
                  rw [HQ.out.1] at hdp
                  simp only [frV]
                  go_upto_region 37 with fail
                  generalize w3.alloc (.cells #[.bool g1.b, .bool g1.e, .int .i64 g1.q, .string g1.d] 32) = w4 at *
                  have hdp2 := hdp w4 h4
                  clear hdp h4
                  go_wp2_with fail
                  refine hdp2.mono ?_
                  rintro e w5 ⟨rfl, h5⟩
                  have hl := qp_len h5
                  rw [HQ.out.2] at hl
                  clear h5 hdp2 HQ
                  go_wp2_with (first | (go_at_call 13; refine (num_any _ _).mono ?_; rintro e w' ⟨rfl, rfl⟩) | (go_at_call 14; refine hl.mono ?_; rintro e w' ⟨rfl, _, hq⟩))
                  go_ret
                  exact ⟨by first | rfl | simp, HX2.out _ hq.only⟩

/- The row's step. -/
set_option maxRecDepth 100000 in
theorem lifted (os : Os) (started : os.Started) (H : Type) (enc : TypeId × Value → H) :
    ReturnsInHanded {} Try.checked os 6 .any (Rows.queueDrainsSpec.pre6 enc Try.prog Try.f6 Rows.queueDrainsRow.domain false) (Rows.queueDrainsSpec.post enc Try.prog Try.f6 false true false false) := by
  refine returnsInHanded_of_change_sized (C := Try.checked) own started (by kernel_rfl) Try.func6
    (ChangeSpec.witness6 (enc := enc) (C := Try.checked) false ⟨#[], #[.slice none 0 0, .int .i64 0, .int .i64 0, .int .i64 0], []⟩ 8 (by kernel_rfl) (by kernel_rfl) (by kernel_rfl) (by kernel_rfl)) ?_
  intro W base args ds gs before hval0 hW hcnd hsz _
  have hval : ∀ (j : Nat) t v, Try.f6.params[j]? = some t → args[j]? = some v → Value.okWide Try.prog W .any base t v := hval0
  have hW' := hW
  obtain ⟨p, q, hA0, hV, rfl, hfz, hnd⟩ := hW
  have hA : DataW.TrodAll enc Try.prog W 0 (fun _ => true) true Try.f6.params.toList args.toList ds p := hA0
  rw [Try.params6] at hA hval
  obtain ⟨v0, vs0, d0, ds0, p0, q0, hargs, rfl, rfl, h0, r0⟩ := trodAll_cons hA
  obtain ⟨v1, vs1, d1, ds1, p1, q1, rfl, rfl, rfl, h1, r1⟩ := trodAll_cons r0
  obtain ⟨v2, vs2, d2, ds2, p2, q2, rfl, rfl, rfl, h2, r2⟩ := trodAll_cons r1
  obtain ⟨v3, vs3, d3, ds3, p3, q3, rfl, rfl, rfl, h3, r3⟩ := trodAll_cons r2
  obtain ⟨rfl, rfl, rfl⟩ := trodAll_nil r3
  obtain rfl : args = #[v0, v1, v2, v3] := by cases args; simp_all
  obtain ⟨rfl, rfl⟩ := trodVars_none hV
  obtain ⟨a0, len0, cap0, rfl⟩ := okWide_slice Try.underlying43 (hval 0 43 v0 rfl rfl)
  have k0 := h0
  have lt0 : ∀ x ∈ p0, x.block < W.heap.size := by obtain ⟨m, hm⟩ := k0; exact DataW.trod_lt m _ _ _ hm
  obtain ⟨z0, w0⟩ : ∃ zs, StrRow W a0 len0 zs := by
    obtain ⟨fuel, hf⟩ := h0
    rcases open_strings Try.underlying43 Try.underlying9 (by kernel_rfl) hf with ⟨hcs, _⟩ | ⟨x, l, c, zs, hcs, _, hl, hm, hz, _, hcell, hws⟩
    · simp [Value.cells] at hcs
      obtain ⟨rfl, rfl, rfl⟩ := hcs
      exact ⟨[], .inl ⟨rfl, rfl⟩⟩
    · simp [Value.cells] at hcs
      obtain ⟨rfl, rfl, rfl⟩ := hcs
      exact ⟨zs, .inr ⟨_, rfl, Nat.le_trans hl hm, fun i hi => ⟨hcell i (by simp at hz; omega), hws _ (by rw [List.getD_eq_getElem?_getD, List.getElem?_eq_getElem (by simp at hz; omega)]; exact List.getElem_mem _)⟩⟩⟩
  obtain ⟨a1, rfl, rfl, rfl, w1⟩ := open_int Try.underlying3 (hval 1 3 v1 rfl rfl) h1
  obtain ⟨a2, rfl, rfl, rfl, w2⟩ := open_int Try.underlying3 (hval 2 3 v2 rfl rfl) h2
  obtain ⟨a3, rfl, rfl, rfl, w3⟩ := open_int Try.underlying3 (hval 3 3 v3 rfl rfl) h3
  clear hA0 hval0
  refine (walk a0 len0 cap0 z0 a1 w1 a2 w2 a3 w3 W w0).mono fun e W' ⟨he, bel⟩ => ?_
  subst he
  exact ⟨_, rfl, _, _, _, [], _, [], hW', trodAll_mk1 (shut_bool Try.underlying4 _), (trodAll_cons_mk (Below.trod laidOut (by kernel_rfl) (of_decide_eq_true (by kernel_rfl)) k0 bel lt0) (trodAll_cons_mk (shut_int Try.underlying3 w1) (trodAll_cons_mk (shut_int Try.underlying3 w2) (trodAll_cons_mk (shut_int Try.underlying3 w3) trodAll_mk0)))), rfl, bel.frame _, fun h => by cases h⟩

theorem over : Rows.queueDrainsRow.holds Try.pinned (OpenSpec.ofChange Rows.queueDrainsSpec) :=
  OpenClaim.holds_of_wide 6 Try.f6 rfl rfl rfl rfl rfl rfl rfl ⟨rfl, rfl, rfl, rfl, rfl⟩ rfl rfl rfl rfl rfl (by kernel_rfl) Try.func6 (by kernel_rfl)
    (of_decide_eq_true (by kernel_rfl)) (by unfold Func.isWrapper; first | (rw [if_pos (by decide +kernel)]; kernel_rfl) | (rw [if_neg (by decide +kernel)]; exact ⟨rfl, rfl⟩))
    (fun os started H enc _ => lifted os started H enc)

/-- The statement. -/
theorem proved : Rows.QueueDrainsSaid := over
#print axioms proved
end Go.Proofs.Ytjcndeanojeffaa.queueDrains

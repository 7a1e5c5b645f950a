/- Proved here: withylaw19.JoinLinks returns true for every input and leaves its arguments as they were (the given statement Rows.JoinLinksSaid). Conditions: none. -/
import Derived.Test.YtcfgbfabokhjcaaRows
import Derived.Test.YtcfgbfabokhjcaaLinks
import Derived.Test.YtcfgbfabokhjcaaMask
import Derived.WalkKit
import Derived.Lib.Hide
import Derived.Deep.Cut
import Derived.StillTactics
import Derived.ProofKit
import Derived.OpenShut
import Derived.ShutString
import Derived.ChangeOld
import Derived.Below
namespace Go.Proofs.Ytcfgbfabokhjcaa.joinLinks
open Go.ChangeShapes Go.WideShapes Go.ChangeAt Go.RowKit
open Plain
open Go.ChangeMaps (open_string shut_string)
set_option linter.unusedVariables false

theorem own : ownKnob Try.prog.godebug = none := by kernel_rfl
theorem laidOut : laidOutB Try.prog = true := by kernel_rfl

/-- WHAT THE WALK IS TOLD OF A SLICE OF INTEGERS THAT CAME IN: it is nil; or it leads to a row of 'cap' cells, the numbers 'zs' (the first 'len' are its elements, the rest its spare room), each fitting its kind. -/
def IsRow (k : IntKind) (w : World) (a : Option Addr) (len cap : Nat) (zs : List Int) : Prop :=
  (a = none ∧ len = 0 ∧ cap = 0 ∧ zs = []) ∨
  ∃ x, a = some x ∧ len ≤ cap ∧ cap ≤ maxLen ∧ zs.length = cap ∧ (∀ i, i < zs.length → w.cell? (x.add i) = some (.int k (zs.getD i 0))) ∧ ∀ n ∈ zs, (Lit.int k n).wf = true

/-- an element of a row that came in. -/
theorem row_at {w : World} {a : Option Addr} {len cap : Nat} {zs : List Int} (h : IsRow .i64 w a len cap zs) (i : Nat) (hi : i < len) :
    ∃ b off, a = some ⟨b, off, none⟩ ∧ b < w.heap.size ∧ w.cell? ⟨b, off + i, none⟩ = some (.int .i64 (zs.getD i 0)) ∧ -9223372036854775808 ≤ zs.getD i 0 ∧ zs.getD i 0 ≤ 9223372036854775807 := by
  rcases h with ⟨_, rfl, _, _⟩ | ⟨x, rfl, hl, hm, hz, hcell, hwz⟩
  · omega
  · have hc := hcell i (by omega)
    obtain ⟨b, off, spot⟩ := x
    have hc0 := hcell 0 (by omega)
    have hspot : spot = none := by simpa [Addr.add] using World.cell?_spot hc0
    subst hspot
    rw [Addr.add_lit] at hc
    have hb := bounds_i64 (hwz (zs.getD i 0) (by rw [show zs.getD i 0 = zs[i]'(by omega) from by simp [List.getD, show i < zs.length by omega]]; exact List.getElem_mem _))
    exact ⟨b, off, rfl, World.block_lt_of_cell? w _ hc, hc, hb.1, hb.2⟩
theorem row_len {w : World} {a : Option Addr} {len cap : Nat} {zs : List Int} (h : IsRow .i64 w a len cap zs) : len ≤ 9223372036854775807 := by
  rcases h with ⟨_, rfl, _, _⟩ | ⟨x, rfl, hl, hm, _⟩
  · omega
  · unfold maxLen at hm; omega

/- The walk: the law's text returns true. -/
set_option maxRecDepth 100000 in
set_option maxHeartbeats 2000000 in
theorem walk (a0 : Option Addr) (len0 cap0 : Nat) (z0 : List Int) (w : World) (w0 : IsRow .i64 w a0 len0 cap0 z0) :
    Calls Try.prog 9 #[.slice a0 len0 cap0] w fun e w' => e = .returned (.bool true) ∧ Below w.heap.size w w' := by
  have hlen := row_len w0
  have hmk : ∀ w, (Instr.makeSlice 61 (.int .i64 32) (.int .i64 32)).run Try.prog w = .ok (.slice (some ⟨w.heap.size, 0, none⟩) 32 32) (w.alloc (.cells (hasRow (J.new true 8)) 4)) := fun _ => by kernel_rfl
  go_enter Try.func9, Try.ntmps9
  go_wp2_with fail
  refine (awake_any w).mono ?_
  rintro e wa ⟨rfl, O0⟩
  go_wp2_with fail
  refine (new_good true 8 wa (by omega) (by omega)).mono ?_
  rintro e wb ⟨p, bl, bh, rfl, h0, o0, n1, n2, n3⟩
  have hOw := O0.size
  have hlt0 := h0.lt
  have O1 : Below w.heap.size w wb := (O0.trans o0).below _ (Nat.le_refl _) (by simp)
  have O2 : Below w.heap.size w (wb.alloc (.cells (hasRow (J.new true 8)) 4)) := O1.alloc O1.size _
  have h1 := h0.alloc (.cells (hasRow (J.new true 8)) 4)
  have hg := heap_alloc_new' wb (.cells (hasRow (J.new true 8)) 4)
  have K0 : LinkS 0 (J.new true 8) := ⟨by decide, rfl, rfl, by decide⟩
  have HB2 := Lib.hid (show w.heap.size ≤ p ∧ w.heap.size ≤ bl ∧ w.heap.size ≤ bh ∧ w.heap.size ≤ wb.heap.size ∧ p ≠ wb.heap.size ∧ bl ≠ wb.heap.size ∧ bh ≠ wb.heap.size from ⟨by omega, by omega, by omega, O1.size, by omega, by omega, by omega⟩)
  clear h0 o0 O0 O1 n1 n2 n3 hOw hlt0
  go_wp2_with fail
  clear hmk
  generalize World.alloc wb _ = wc at *
  generalize wb.heap.size = g at *
  go_loopw [6, 7] (fun m i wr => ∃ (t : Nat) (S : J), i = .int .i64 t ∧ m = .int .i64 S.links.length ∧ t ≤ 60 ∧ t ≤ len0 ∧ PJ wr p bl bh S ∧ LinkS t S ∧ wr.heap[g]? = some (.cells (hasRow S) 4 (0, 0)) ∧ Below w.heap.size w wr) (fun _ i _ => 60 - (intOf i).toNat)
  case atStart => exact ⟨0, J.new true 8, rfl, rfl, by omega, by omega, h1, K0, hg, O2⟩
  case round =>
    clear h1 K0 hg O2
    obtain ⟨t, S, rfl, rfl, ht, htl, hS, hK, hg, hb⟩ := hrel
    by_cases hl1 : t < len0
    rotate_left
    · have d1 : decide (t < len0) = false := by simp; omega
      clear hS hK hg
      go_wp2_with (go_at_call 14; refine (num_any _ _).mono ?_; rintro e w' ⟨rfl, rfl⟩)
      go_ret
      exact ⟨by first | rfl | simp, hb⟩
    have d1 : decide (t < len0) = true := by simp; omega
    by_cases hl2 : t < 60
    rotate_left
    · have d2 : decide ((t : Int) < 60) = false := by simp; omega
      clear hS hK hg
      go_wp2_with (go_at_call 14; refine (num_any _ _).mono ?_; rintro e w' ⟨rfl, rfl⟩)
      go_ret
      exact ⟨by first | rfl | simp, hb⟩
    have d2 : decide ((t : Int) < 60) = true := by simp; omega
    obtain ⟨b0, off0, rfl, hbl0, hc0, hz1, hz2⟩ := row_at w0 t hl1
    have hcr : wr.cell? ⟨b0, off0 + t, none⟩ = some (.int .i64 (z0.getD t 0)) := (hb.cell hbl0).trans hc0
    generalize z0.getD t 0 = y at *
    have m1 := and_31 y
    have t1 : 0 ≤ y % 32 ∧ y % 32 < 32 := by omega
    generalize y % 32 = kk at *
    obtain ⟨k0, k1⟩ := t1
    obtain ⟨k, rfl⟩ := Int.eq_ofNat_of_zero_le k0
    have hk32 : k < 32 := by omega
    clear hc0 hbl0 hz1 hz2 k0
    generalize hF : (bits .and .i64 y 32 == 32) = fl at *
    have HK := Lib.hid hK
    have HS := Lib.hid hS
    have HG := Lib.hid hg
    clear hK hS hg
    cases fl
    · by_cases hh : S.has k = true
      · have he : addE S k = 1900 := by unfold addE; rw [if_pos (.inr hh)]
        have hs : addS S k = S := by unfold addS; rw [if_neg (by rw [he]; decide)]
        have hadd := add_any p bl bh S k wr HS.out (by omega) (by omega)
        rw [he, hs] at hadd
        have cg0 := row_cell HG.out k hk32
        rw [hh] at cg0
        have HA := Lib.hid hadd
        have HHT := Lib.hid hh
        clear hadd he hs hh
        go_wp2_with fail
        refine HA.out.mono ?_
        rintro e w1 ⟨rfl, h1, o1⟩
        have hg1 := o1.at HG.out (by have := HB2.out; simp; omega)
        have cg := row_cell hg1 k hk32
        rw [HHT.out] at cg
        have hb1 : Below w.heap.size w w1 := hb.trans (o1.below _ hb.size (by have := HB2.out; simp; omega))
        have KT := HK.out
        have hhT := HHT.out
        clear HA o1 hb cg0
        have hput := fun wx (ox : Only [] w1 wx) => put_at (b := true) (e := true) (q := (t : Int) % 4096) (d := ⟨#[122]⟩) (T := putS S k (wholeF t ⟨#[122]⟩)) (outs := putO S k (wholeF t ⟨#[122]⟩)) (code := 0) (h1.only ox (by simp) (by simp) (by simp)) (link := k) (by omega) (by omega) (by have := KT.few; have := KT.most; omega) (by have := KT.sum; omega) rfl (by have := put_code KT k t ⟨#[122]⟩ (by decide); rw [hhT] at this; exact this) rfl
        have hpk := put_k h1.ok KT.few k (wholeF t ⟨#[122]⟩) (by have := KT.sum; omega)
        have hrow := row_keys hpk.keys
        have hkl := keys_len hpk.keys
        have KT2 := KT.put hpk
        have HPut := Lib.hid hput
        have HK2 := Lib.hid (And.intro KT2 (And.intro hrow hkl))
        have HG1 := Lib.hid hg1
        have HBw := Lib.hid hb1
        clear hput hpk hrow hkl KT2 KT h1 hg1 hb1 hhT
        generalize putS S k (wholeF t ⟨#[122]⟩) = S2 at *
        generalize putO S k (wholeF t ⟨#[122]⟩) = outs at *
        go_wp2_with (go_at_call 14; refine (num_any _ _).mono ?_; rintro e w' ⟨rfl, rfl⟩)
        refine (whole_any _ _ _).mono ?_
        rintro e wx ⟨rfl, ox⟩
        have HP := Lib.hid (HPut.out wx ox)
        have hb3 : Below w.heap.size w wx := HBw.out.trans (ox.below _ HBw.out.size (by simp))
        have hg3 := ox.at HG1.out (by simp)
        clear HPut ox
        go_wp2_with fail
        refine HP.out.mono ?_
        rintro e wy ⟨ao, cap, rfl, _, _, h4, o4, _⟩
        have hb4 : Below w.heap.size w wy := hb3.trans (o4.below _ hb3.size (by have := HB2.out; simp; omega))
        have hg4 := o4.at hg3 (by have := HB2.out; simp; omega)
        have cg := row_cell hg4 k hk32
        rw [HHT.out] at cg
        clear HP o4 hb3 hg3
        go_wp2_with fail
        refine wp_region_reads mixed (by kernel_rfl) ?_
        (refine wpStill_op rfl rfl (fun K hK => ?_); go_step; refine hK _ ?_; clear hK K)
        still_call (num_still _ _)
        iterate 6 (refine wpStill_op rfl rfl (fun K hK => ?_); go_step; refine hK _ ?_; clear hK K)
        refine wpStill_nil ?_
        clear cg
        go_wp2_with fail
        go_roundw
        case rel => exact ⟨t + 1, S2, by go_num, by rw [HK2.out.2.2], by omega, by omega, h4.drew, HK2.out.1, by rw [HK2.out.2.1]; exact hg4, hb4.drew⟩
        case measure => simp [intOf]; omega
      · have hh' : S.has k = false := by simpa using hh
        by_cases h8 : 8 ≤ S.links.length
        · have he : addE S k = 1901 := by unfold addE; rw [if_neg (by simp [hh']), if_pos h8]
          have hs : addS S k = S := by unfold addS; rw [if_neg (by rw [he]; decide)]
          have hadd := add_any p bl bh S k wr HS.out (by omega) (by omega)
          rw [he, hs] at hadd
          have HA := Lib.hid hadd
          have HHT := Lib.hid hh'
          have d8 : decide (8 ≤ (S.links.length : Int)) = true := by simp; omega
          clear hadd he hs hh hh'
          go_wp2_with fail
          refine HA.out.mono ?_
          rintro e w1 ⟨rfl, h1, o1⟩
          have hg1 := o1.at HG.out (by have := HB2.out; simp; omega)
          have cg := row_cell hg1 k hk32
          rw [HHT.out] at cg
          have hb1 : Below w.heap.size w w1 := hb.trans (o1.below _ hb.size (by have := HB2.out; simp; omega))
          have KT := HK.out
          have hhT := HHT.out
          clear HA o1 hb
          have hput := fun wx (ox : Only [] w1 wx) => put_at (b := true) (e := true) (q := (t : Int) % 4096) (d := ⟨#[122]⟩) (T := putS S k (wholeF t ⟨#[122]⟩)) (outs := putO S k (wholeF t ⟨#[122]⟩)) (code := 1902) (h1.only ox (by simp) (by simp) (by simp)) (link := k) (by omega) (by omega) (by have := KT.few; have := KT.most; omega) (by have := KT.sum; omega) rfl (by have := put_code KT k t ⟨#[122]⟩ (by decide); rw [hhT] at this; exact this) rfl
          have hpk := put_k h1.ok KT.few k (wholeF t ⟨#[122]⟩) (by have := KT.sum; omega)
          have hrow := row_keys hpk.keys
          have hkl := keys_len hpk.keys
          have KT2 := KT.put hpk
          have HPut := Lib.hid hput
          have HK2 := Lib.hid (And.intro KT2 (And.intro hrow hkl))
          have HG1 := Lib.hid hg1
          have HBw := Lib.hid hb1
          clear hput hpk hrow hkl KT2 KT h1 hg1 hb1 hhT
          generalize putS S k (wholeF t ⟨#[122]⟩) = S2 at *
          generalize putO S k (wholeF t ⟨#[122]⟩) = outs at *
          go_wp2_with (go_at_call 14; refine (num_any _ _).mono ?_; rintro e w' ⟨rfl, rfl⟩)
          refine (whole_any _ _ _).mono ?_
          rintro e wx ⟨rfl, ox⟩
          have HP := Lib.hid (HPut.out wx ox)
          have hb3 : Below w.heap.size w wx := HBw.out.trans (ox.below _ HBw.out.size (by simp))
          have hg3 := ox.at HG1.out (by simp)
          clear HPut ox
          go_wp2_with fail
          refine HP.out.mono ?_
          rintro e wy ⟨ao, cap, rfl, _, _, h4, o4, _⟩
          have hb4 : Below w.heap.size w wy := hb3.trans (o4.below _ hb3.size (by have := HB2.out; simp; omega))
          have hg4 := o4.at hg3 (by have := HB2.out; simp; omega)
          have cg := row_cell hg4 k hk32
          rw [HHT.out] at cg
          clear HP o4 hb3 hg3
          go_wp2_with fail
          refine wp_region_reads mixed (by kernel_rfl) ?_
          (refine wpStill_op rfl rfl (fun K hK => ?_); go_step; refine hK _ ?_; clear hK K)
          still_call (num_still _ _)
          iterate 6 (refine wpStill_op rfl rfl (fun K hK => ?_); go_step; refine hK _ ?_; clear hK K)
          refine wpStill_nil ?_
          clear cg
          go_wp2_with fail
          go_roundw
          case rel => exact ⟨t + 1, S2, by go_num, by rw [HK2.out.2.2], by omega, by omega, h4.drew, HK2.out.1, by rw [HK2.out.2.1]; exact hg4, hb4.drew⟩
          case measure => simp [intOf]; omega
        · have he : addE S k = 0 := by unfold addE; rw [if_neg (by simp [hh']), if_neg h8]
          have hadd := add_any p bl bh S k wr HS.out (by omega) (by omega)
          rw [he] at hadd
          have HA := Lib.hid hadd
          have HE := Lib.hid he
          have HHF := Lib.hid hh'
          have HHT := Lib.hid (show (addS S k).has k = true by rw [has_add he]; simp)
          have d8 : decide (8 ≤ (S.links.length : Int)) = false := by simp; omega
          have hl8 := HS.out.ok.links8
          clear hadd he hh hh' h8
          go_wp2_with fail
          refine HA.out.mono ?_
          rintro e w0' ⟨rfl, h1, o1⟩
          have hg1 := o1.at HG.out (by have := HB2.out; simp; omega)
          have cg := row_cell hg1 k hk32
          rw [HHF.out] at cg
          have fg := frozen_of hg1 k
          have hb1 : Below w.heap.size w w0' := hb.trans (o1.below _ hb.size (by have := HB2.out; simp; omega))
          clear HA o1 hb
          go_upto_region 28 with (go_at_call 14; refine (num_any _ _).mono ?_; rintro e w' ⟨rfl, rfl⟩)
          have hg2 : (w0'.setCell ⟨g, k, none⟩ (.bool true)).heap[g]? = some (.cells (hasRow (addS S k)) 4 (0, 0)) := by rw [heap_setCell_same hg1, row_add hk32 HE.out]
          have h2 := h1.only (show Only [g] w0' (w0'.setCell ⟨g, k, none⟩ (.bool true)) from (Only.refl _ _).setCell (.inl (by simp)) _) (by have := HB2.out; simp; omega) (by have := HB2.out; simp; omega) (by have := HB2.out; simp; omega)
          have hb2 : Below w.heap.size w (w0'.setCell ⟨g, k, none⟩ (.bool true)) := hb1.setCell (show w.heap.size ≤ g from HB2.out.2.2.2.1) _
          have KT := HK.out.add k
          have hhT := HHT.out
          clear h1 hg1 hb1 cg fg
          generalize w0'.setCell _ _ = w1 at *
          have hput := fun wx (ox : Only [] w1 wx) => put_at (b := true) (e := true) (q := (t : Int) % 4096) (d := ⟨#[122]⟩) (T := putS (addS S k) k (wholeF t ⟨#[122]⟩)) (outs := putO (addS S k) k (wholeF t ⟨#[122]⟩)) (code := 0) (h2.only ox (by simp) (by simp) (by simp)) (link := k) (by omega) (by omega) (by have := KT.few; have := KT.most; omega) (by have := KT.sum; omega) rfl (by have := put_code KT k t ⟨#[122]⟩ (by decide); rw [hhT] at this; exact this) rfl
          have hpk := put_k h2.ok KT.few k (wholeF t ⟨#[122]⟩) (by have := KT.sum; omega)
          have hrow := row_keys hpk.keys
          have hkl := keys_len hpk.keys
          have KT2 := KT.put hpk
          have HPut := Lib.hid hput
          have HK2 := Lib.hid (And.intro KT2 (And.intro hrow hkl))
          have HG1 := Lib.hid hg2
          have HBw := Lib.hid hb2
          clear hput hpk hrow hkl KT2 KT h2 hg2 hb2 hhT
          generalize putS (addS S k) k (wholeF t ⟨#[122]⟩) = S2 at *
          generalize putO (addS S k) k (wholeF t ⟨#[122]⟩) = outs at *
          go_wp2_with (go_at_call 14; refine (num_any _ _).mono ?_; rintro e w' ⟨rfl, rfl⟩)
          refine (whole_any _ _ _).mono ?_
          rintro e wx ⟨rfl, ox⟩
          have HP := Lib.hid (HPut.out wx ox)
          have hb3 : Below w.heap.size w wx := HBw.out.trans (ox.below _ HBw.out.size (by simp))
          have hg3 := ox.at HG1.out (by simp)
          clear HPut ox
          go_wp2_with fail
          refine HP.out.mono ?_
          rintro e wy ⟨ao, cap, rfl, _, _, h4, o4, _⟩
          have hb4 : Below w.heap.size w wy := hb3.trans (o4.below _ hb3.size (by have := HB2.out; simp; omega))
          have hg4 := o4.at hg3 (by have := HB2.out; simp; omega)
          have cg := row_cell hg4 k hk32
          rw [HHT.out] at cg
          clear HP o4 hb3 hg3
          go_wp2_with fail
          refine wp_region_reads mixed (by kernel_rfl) ?_
          (refine wpStill_op rfl rfl (fun K hK => ?_); go_step; refine hK _ ?_; clear hK K)
          still_call (num_still _ _)
          iterate 6 (refine wpStill_op rfl rfl (fun K hK => ?_); go_step; refine hK _ ?_; clear hK K)
          refine wpStill_nil ?_
          clear cg
          go_wp2_with fail
          go_roundw
          case rel => exact ⟨t + 1, S2, by go_num, by rw [HK2.out.2.2]; rw [len_add HE.out]; go_num, by omega, by omega, h4.drew, HK2.out.1, by rw [HK2.out.2.1]; exact hg4, hb4.drew⟩
          case measure => simp [intOf]; omega
    · by_cases hh : S.has k = true
      · have he : dropE S k = 0 := by unfold dropE; rw [if_pos hh]
        have hd := drop_any p bl bh S k wr HS.out (by omega) (by omega)
        rw [he] at hd
        have HA := Lib.hid hd
        have HHT := Lib.hid hh
        have hl8 := HS.out.ok.links8
        have hld := len_drop HS.out.ok.lnodup hh
        have hl1 : 1 ≤ S.links.length := by omega
        have HLD := Lib.hid hld
        clear hd he hh hld
        go_wp2_with fail
        refine HA.out.mono ?_
        rintro e w1 ⟨rfl, h1, o1⟩
        have hg1 := o1.at HG.out (by have := HB2.out; simp; omega)
        have cg := row_cell hg1 k hk32
        rw [HHT.out] at cg
        have fg := frozen_of hg1 k
        have hb1 : Below w.heap.size w w1 := hb.trans (o1.below _ hb.size (by have := HB2.out; simp; omega))
        clear HA o1 hb
        go_wp2_with fail
        refine wp_region_reads mixed (by kernel_rfl) ?_
        (refine wpStill_op rfl rfl (fun K hK => ?_); go_step; refine hK _ ?_; clear hK K)
        still_call (num_still _ _)
        iterate 6 (refine wpStill_op rfl rfl (fun K hK => ?_); go_step; refine hK _ ?_; clear hK K)
        refine wpStill_nil ?_
        go_wp2_with fail
        have hg2 : (w1.drew.setCell ⟨g, k, none⟩ (.bool false)).heap[g]? = some (.cells (hasRow (dropS S k)) 4 (0, 0)) := by rw [heap_setCell_same (w := w1.drew) hg1, row_drop hk32 HHT.out]
        have h2 := h1.drew.only (show Only [g] w1.drew (w1.drew.setCell ⟨g, k, none⟩ (.bool false)) from (Only.refl _ _).setCell (.inl (by simp)) _) (by have := HB2.out; simp; omega) (by have := HB2.out; simp; omega) (by have := HB2.out; simp; omega)
        have hb2 : Below w.heap.size w (w1.drew.setCell ⟨g, k, none⟩ (.bool false)) := hb1.drew.setCell (show w.heap.size ≤ g from HB2.out.2.2.2.1) _
        have KT := HK.out.drop k
        clear h1 hg1 hb1 cg fg
        go_roundw
        case rel => exact ⟨t + 1, dropS S k, by go_num, by congr 1; have := HLD.out; omega, by omega, by omega, h2, KT, hg2, hb2⟩
        case measure => simp [intOf]; omega
      · have hh' : S.has k = false := by simpa using hh
        have he : dropE S k = 1902 := by unfold dropE; rw [if_neg hh]
        have hs : dropS S k = S := by unfold dropS; rw [if_neg hh]
        have hd := drop_any p bl bh S k wr HS.out (by omega) (by omega)
        have KT := HK.out.drop k
        rw [hs] at KT
        rw [he, hs] at hd
        have HA := Lib.hid hd
        have HHT := Lib.hid hh'
        have HKT := Lib.hid KT
        clear hd he hh hh' hs KT
        go_wp2_with fail
        refine HA.out.mono ?_
        rintro e w1 ⟨rfl, h1, o1⟩
        have hg1 := o1.at HG.out (by have := HB2.out; simp; omega)
        have cg := row_cell hg1 k hk32
        rw [HHT.out] at cg
        have hb1 : Below w.heap.size w w1 := hb.trans (o1.below _ hb.size (by have := HB2.out; simp; omega))
        clear HA o1 hb
        go_wp2_with fail
        refine wp_region_reads mixed (by kernel_rfl) ?_
        (refine wpStill_op rfl rfl (fun K hK => ?_); go_step; refine hK _ ?_; clear hK K)
        still_call (num_still _ _)
        iterate 6 (refine wpStill_op rfl rfl (fun K hK => ?_); go_step; refine hK _ ?_; clear hK K)
        refine wpStill_nil ?_
        go_wp2_with fail
        clear cg
        go_roundw
        case rel => exact ⟨t + 1, S, by go_num, rfl, by omega, by omega, h1.drew, HKT.out, hg1, hb1.drew⟩
        case measure => simp [intOf]; omega

/- The row's step. -/
set_option maxRecDepth 100000 in
theorem lifted (os : Os) (started : os.Started) (H : Type) (enc : TypeId × Value → H) :
    ReturnsInHanded {} Try.checked os 9 .any (Rows.joinLinksSpec.pre6 enc Try.prog Try.f9 Rows.joinLinksRow.domain false) (Rows.joinLinksSpec.post enc Try.prog Try.f9 false true false false) := by
  refine returnsInHanded_of_change (C := Try.checked) own started (by kernel_rfl) Try.func9
    (ChangeSpec.witness6 (enc := enc) (C := Try.checked) false ⟨#[], #[.slice none 0 0], []⟩ 8 (by kernel_rfl) (by kernel_rfl) (by kernel_rfl) (by kernel_rfl)) ?_
  intro W base args ds gs before hval0 hW hcnd _
  have hval : ∀ (j : Nat) t v, Try.f9.params[j]? = some t → args[j]? = some v → Value.okWide Try.prog W .any base t v := hval0
  have hW' := hW
  obtain ⟨p, q, hA0, hV, rfl, hfz, hnd⟩ := hW
  have hA : DataW.TrodAll enc Try.prog W 0 (fun _ => true) true Try.f9.params.toList args.toList ds p := hA0
  rw [Try.params9] at hA hval
  obtain ⟨v0, vs0, d0, ds0, p0, q0, hargs, rfl, rfl, h0, r0⟩ := trodAll_cons hA
  obtain ⟨rfl, rfl, rfl⟩ := trodAll_nil r0
  obtain rfl : args = #[v0] := by cases args; simp_all
  obtain ⟨rfl, rfl⟩ := trodVars_none hV
  obtain ⟨a0, len0, cap0, rfl⟩ := okWide_slice Try.underlying50 (hval 0 50 v0 rfl rfl)
  have k0 := h0
  have lt0 : ∀ x ∈ p0, x.block < W.heap.size := by obtain ⟨m, hm⟩ := k0; exact DataW.trod_lt m _ _ _ hm
  obtain ⟨z0, w0⟩ : ∃ zs, IsRow .i64 W a0 len0 cap0 zs := by
    obtain ⟨fuel, hf⟩ := h0
    rcases open_ints Try.underlying50 Try.underlying3 (by kernel_rfl) hf with ⟨hcs, _⟩ | ⟨x, l, c, zs, hcs, _, hl, hm, hz, _, hcell, hwz⟩
    · simp [Value.cells] at hcs
      obtain ⟨rfl, rfl, rfl⟩ := hcs
      exact ⟨[], .inl ⟨rfl, rfl, rfl, rfl⟩⟩
    · simp [Value.cells] at hcs
      obtain ⟨rfl, rfl, rfl⟩ := hcs
      exact ⟨zs, .inr ⟨_, rfl, hl, hm, by simpa using hz, hcell, hwz⟩⟩
  clear hA0 hval0
  refine (walk a0 len0 cap0 z0 W w0).mono fun e W' ⟨he, bel⟩ => ?_
  subst he
  exact ⟨_, rfl, _, _, _, [], _, [], hW', trodAll_mk1 (shut_bool Try.underlying4 _), (trodAll_cons_mk (Below.trod laidOut (by kernel_rfl) (of_decide_eq_true (by kernel_rfl)) k0 bel lt0) trodAll_mk0), rfl, bel.frame _, fun h => by cases h⟩

theorem over : Rows.joinLinksRow.holds Try.pinned (OpenSpec.ofChange Rows.joinLinksSpec) :=
  OpenClaim.holds_of_wide 9 Try.f9 rfl rfl rfl rfl rfl rfl rfl ⟨rfl, rfl, rfl, rfl, rfl⟩ rfl rfl rfl rfl rfl (by kernel_rfl) Try.func9 (by kernel_rfl)
    (of_decide_eq_true (by kernel_rfl)) (by unfold Func.isWrapper; first | (rw [if_pos (by decide +kernel)]; kernel_rfl) | (rw [if_neg (by decide +kernel)]; exact ⟨rfl, rfl⟩))
    (fun os started H enc _ => lifted os started H enc)

/-- The statement. -/
theorem proved : Rows.JoinLinksSaid := over
#print axioms proved
end Go.Proofs.Ytcfgbfabokhjcaa.joinLinks

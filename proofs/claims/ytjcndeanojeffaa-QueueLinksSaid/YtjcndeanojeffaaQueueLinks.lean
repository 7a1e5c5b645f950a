/- Proved here: withylaw20.QueueLinks returns true for every input and leaves its arguments as they were (the given statement Rows.QueueLinksSaid). Conditions: none. -/
import Derived.Test.YtjcndeanojeffaaRows
import Derived.Test.YtjcndeanojeffaaLinks
import Derived.Test.YtjcndeanojeffaaMask
import Derived.WalkKit
import Derived.Lib.Hide
import Derived.Deep.Cut
import Derived.StillTactics
import Derived.ProofKit
import Derived.OpenShut
import Derived.ShutString
import Derived.ChangeOld
import Derived.Below
namespace Go.Proofs.Ytjcndeanojeffaa.queueLinks
open Go.ChangeShapes Go.WideShapes Go.ChangeAt Go.RowKit
open Plain
open Go.ChangeMaps (open_string shut_string)
set_option linter.unusedVariables false

theorem own : ownKnob Try.prog.godebug = none := by kernel_rfl
theorem laidOut : laidOutB Try.prog = true := by kernel_rfl

/-- WHAT THE WALK IS TOLD OF A SLICE OF INTEGERS THAT CAME IN: it is nil; or it leads to a row of 'cap' cells, the numbers 'zs' (the first 'len' are its elements, the rest its spare room), each fitting its kind. -/
def IsRow (k : IntKind) (w : World) (a : Option Addr) (len cap : Nat) (zs : List Int) : Prop :=
  (a = none ∧ len = 0 ∧ cap = 0 ∧ zs = []) ∨
  ∃ x, a = some x ∧ len ≤ cap ∧ cap ≤ maxLen ∧ zs.length = cap ∧ (∀ i, i < zs.length → w.cell? (x.add i) = some (.int k (zs.getD i 0))) ∧ ∀ n ∈ zs, (Lit.int k n).wf = true

/-- an element of a row that came in. -/
theorem row_at {w : World} {a : Option Addr} {len cap : Nat} {zs : List Int} (h : IsRow .i64 w a len cap zs) (i : Nat) (hi : i < len) :
    ∃ b off, a = some ⟨b, off, none⟩ ∧ b < w.heap.size ∧ w.cell? ⟨b, off + i, none⟩ = some (.int .i64 (zs.getD i 0)) ∧ -9223372036854775808 ≤ zs.getD i 0 ∧ zs.getD i 0 ≤ 9223372036854775807 := by
  rcases h with ⟨_, rfl, _, _⟩ | ⟨x, rfl, hl, hm, hz, hcell, hwz⟩
  · omega
  · have hc := hcell i (by omega)
    obtain ⟨b, off, spot⟩ := x
    have hc0 := hcell 0 (by omega)
    have hspot : spot = none := by simpa [Addr.add] using World.cell?_spot hc0
    subst hspot
    rw [Addr.add_lit] at hc
    have hb := bounds_i64 (hwz (zs.getD i 0) (by rw [show zs.getD i 0 = zs[i]'(by omega) from by simp [List.getD, show i < zs.length by omega]]; exact List.getElem_mem _))
    exact ⟨b, off, rfl, World.block_lt_of_cell? w _ hc, hc, hb.1, hb.2⟩
theorem row_len {w : World} {a : Option Addr} {len cap : Nat} {zs : List Int} (h : IsRow .i64 w a len cap zs) : len ≤ 9223372036854775807 := by
  rcases h with ⟨_, rfl, _, _⟩ | ⟨x, rfl, hl, hm, _⟩
  · omega
  · unfold maxLen at hm; omega

/- The walk: the law's text returns true. -/
set_option maxRecDepth 100000 in
set_option maxHeartbeats 2000000 in
theorem walk (a0 : Option Addr) (len0 cap0 : Nat) (z0 : List Int) (w : World) (w0 : IsRow .i64 w a0 len0 cap0 z0) :
    Calls Try.prog 5 #[.slice a0 len0 cap0] w fun e w' => e = .returned (.bool true) ∧ Below w.heap.size w w' := by
  have hlen := row_len w0
  have hmk : ∀ w, (Instr.makeSlice 41 (.int .i64 16) (.int .i64 16)).run Try.prog w = .ok (.slice (some ⟨w.heap.size, 0, none⟩) 16 16) (w.alloc (.cells (hasRow (Q.new 1 true)) 4)) := fun _ => by kernel_rfl
  go_enter Try.func5, Try.ntmps5
  go_wp2_with fail
  refine (awake_any w).mono ?_
  rintro e wa ⟨rfl, O0⟩
  go_wp2_with fail
  refine (qp_new 1 true wa (by omega) (by omega)).mono ?_
  rintro e wb ⟨p, rfl, h0⟩
  have HB := Lib.hid (fun (w' : World) (o : Only [] wa w') => (O0.trans o).below w.heap.size (Nat.le_refl _) (by simp))
  have hgw : wa.heap.size ≤ wb.heap.size := h0.only.size
  have h1 := h0.keep (.cells (hasRow (Q.new 1 true)) 4)
  have K0 : Idle (Q.new 1 true) := fun p hp => by cases hp
  clear h0 O0
  go_wp2_with fail
  clear hmk
  generalize World.alloc wb _ = wc at *
  generalize wb.heap.size = g at *
  have HG := Lib.hid hgw
  clear hgw
  go_loopw [6, 7] (fun m i wr => ∃ (t : Nat) (S : Q), i = .int .i64 t ∧ m = .int .i64 S.lanes.length ∧ t ≤ 60 ∧ t ≤ len0 ∧ QP wa p [(g, .cells (hasRow S) 4 (0, 0))] S wr ∧ Idle S) (fun _ i _ => 60 - (intOf i).toNat)
  case atStart => exact ⟨0, Q.new 1 true, rfl, rfl, by omega, by omega, h1, K0⟩
  case round =>
    clear h1 K0
    obtain ⟨t, S, rfl, rfl, ht, htl, hS, hK⟩ := hrel
    have hb := HB.out wr hS.only
    by_cases hl1 : t < len0
    rotate_left
    · have d1 : decide (t < len0) = false := by simp; omega
      clear hS hK
      go_wp2_with (go_at_call 13; refine (num_any _ _).mono ?_; rintro e w' ⟨rfl, rfl⟩)
      go_ret
      exact ⟨by first | rfl | simp, hb⟩
    have d1 : decide (t < len0) = true := by simp; omega
    by_cases hl2 : t < 60
    rotate_left
    · have d2 : decide ((t : Int) < 60) = false := by simp; omega
      clear hS hK
      go_wp2_with (go_at_call 13; refine (num_any _ _).mono ?_; rintro e w' ⟨rfl, rfl⟩)
      go_ret
      exact ⟨by first | rfl | simp, hb⟩
    have d2 : decide ((t : Int) < 60) = true := by simp; omega
    obtain ⟨b0, off0, rfl, hbl0, hc0, hz1, hz2⟩ := row_at w0 t hl1
    have hcr : wr.cell? ⟨b0, off0 + t, none⟩ = some (.int .i64 (z0.getD t 0)) := (hb.cell hbl0).trans hc0
    generalize z0.getD t 0 = y at *
    have m1 := and_15 y
    have t1 : 0 ≤ y % 16 ∧ y % 16 < 16 := by omega
    generalize y % 16 = kk at *
    obtain ⟨k0, k1⟩ := t1
    obtain ⟨k, rfl⟩ := Int.eq_ofNat_of_zero_le k0
    have hk16 : k < 16 := by omega
    clear hc0 hbl0 hz1 hz2 k0 hb
    generalize hF : (bits .and .i64 y 16 == 16) = fl at *
    have HK := Lib.hid hK
    have HS := Lib.hid hS
    have hl8 := hS.ok.lanes8
    clear hK hS
    cases fl
    · by_cases hh : S.has k = true
      · have he : S.addE k = 2000 := by rw [addE_eq (by omega), if_pos hh]
        have hs : S.addS k = S := by unfold Q.addS; rw [if_neg (by rw [he]; decide)]
        have hd := qp_add HS.out k (by omega) (by omega)
        rw [he, hs] at hd
        have HA := Lib.hid hd
        have HHT := Lib.hid hh
        clear hd he hh hs
        go_wp2_with fail
        refine HA.out.mono ?_
        rintro e w1 ⟨rfl, h1⟩
        have hg1 := h1.kept List.mem_cons_self
        have cg := row_cell hg1 k hk16
        rw [HHT.out] at cg
        clear HA
        go_wp2_with fail
        refine wp_region_reads mixed (by kernel_rfl) ?_
        ((with_reducible refine wpStill_op ?_ ?_ ?_); (focus kernel_rfl); (focus kernel_rfl); intro K hK; go_step; refine hK _ ?_; clear hK K)
        still_call (num_still _ _)
        iterate 7 ((with_reducible refine wpStill_op ?_ ?_ ?_); (focus kernel_rfl); (focus kernel_rfl); intro K hK; go_step; refine hK _ ?_; clear hK K)
        iterate 2 ((with_reducible refine wpStill_off ?_ ?_); (focus kernel_rfl))
        iterate 2 ((with_reducible refine wpStill_op ?_ ?_ ?_); (focus kernel_rfl); (focus kernel_rfl); intro K hK; go_step; refine hK _ ?_; clear hK K)
        refine wpStill_nil ?_
        clear cg hg1
        have hdr := qp_drain (h1.quiet (Only.drew (Only.refl [] w1))) k (by omega) (by omega)
        have hde : S.drainE k = 0 := by rw [drainE_eq, if_pos HHT.out]
        rw [hde, if_pos rfl] at hdr
        have HDR := Lib.hid hdr
        clear hdr hde h1
        go_wp2_with (go_at_call 13; refine (num_any _ _).mono ?_; rintro e w' ⟨rfl, rfl⟩)
        refine HDR.out.mono ?_
        rintro e w3 ⟨rfl, h3⟩
        have hg3 := h3.kept List.mem_cons_self
        have cg3 := row_cell hg3 k hk16
        rw [HHT.out] at cg3
        clear HDR
        go_wp2_with fail
        refine wp_region_reads mixed (by kernel_rfl) ?_
        ((with_reducible refine wpStill_op ?_ ?_ ?_); (focus kernel_rfl); (focus kernel_rfl); intro K hK; go_step; refine hK _ ?_; clear hK K)
        still_call (num_still _ _)
        iterate 6 ((with_reducible refine wpStill_op ?_ ?_ ?_); (focus kernel_rfl); (focus kernel_rfl); intro K hK; go_step; refine hK _ ?_; clear hK K)
        refine wpStill_nil ?_
        go_wp2_with fail
        clear cg3 hg3
        go_roundw
        case rel => exact ⟨t + 1, S.drainS k, by go_num, by rw [len_drain], by omega, by omega, by rw [row_drain]; exact h3.quiet (Only.drew (Only.refl [] w3)), HK.out.drain k⟩
        case measure => simp [intOf]; omega
      · have hh' : S.has k = false := by simpa using hh
        by_cases h8 : 8 ≤ S.lanes.length
        · have he : S.addE k = 2001 := by rw [addE_eq (by omega), if_neg hh, if_pos h8]
          have hs : S.addS k = S := by unfold Q.addS; rw [if_neg (by rw [he]; decide)]
          have hd := qp_add HS.out k (by omega) (by omega)
          rw [he, hs] at hd
          have HA := Lib.hid hd
          have HHT := Lib.hid hh'
          have d8 : decide ((S.lanes.length : Int) < 8) = false := by simp; omega
          clear hd he hh hh' hs
          go_wp2_with fail
          refine HA.out.mono ?_
          rintro e w1 ⟨rfl, h1⟩
          have hg1 := h1.kept List.mem_cons_self
          have cg := row_cell hg1 k hk16
          rw [HHT.out] at cg
          clear HA
          go_wp2_with fail
          refine wp_region_reads mixed (by kernel_rfl) ?_
          ((with_reducible refine wpStill_op ?_ ?_ ?_); (focus kernel_rfl); (focus kernel_rfl); intro K hK; go_step; refine hK _ ?_; clear hK K)
          still_call (num_still _ _)
          iterate 7 ((with_reducible refine wpStill_op ?_ ?_ ?_); (focus kernel_rfl); (focus kernel_rfl); intro K hK; go_step; refine hK _ ?_; clear hK K)
          iterate 4 ((with_reducible refine wpStill_op ?_ ?_ ?_); (focus kernel_rfl); (focus kernel_rfl); intro K hK; go_step; refine hK _ ?_; clear hK K)
          refine wpStill_nil ?_
          clear cg hg1
          have hdr := qp_drain (h1.quiet (Only.drew (Only.refl [] w1))) k (by omega) (by omega)
          have hde : S.drainE k = 2002 := by rw [drainE_eq, HHT.out]; rfl
          rw [hde, if_neg (by decide)] at hdr
          have HDR := Lib.hid hdr
          clear hdr hde h1
          go_wp2_with (go_at_call 13; refine (num_any _ _).mono ?_; rintro e w' ⟨rfl, rfl⟩)
          refine HDR.out.mono ?_
          rintro e w3 ⟨rfl, h3⟩
          have hg3 := h3.kept List.mem_cons_self
          have cg3 := row_cell hg3 k hk16
          rw [HHT.out] at cg3
          clear HDR
          go_wp2_with fail
          refine wp_region_reads mixed (by kernel_rfl) ?_
          ((with_reducible refine wpStill_op ?_ ?_ ?_); (focus kernel_rfl); (focus kernel_rfl); intro K hK; go_step; refine hK _ ?_; clear hK K)
          still_call (num_still _ _)
          iterate 6 ((with_reducible refine wpStill_op ?_ ?_ ?_); (focus kernel_rfl); (focus kernel_rfl); intro K hK; go_step; refine hK _ ?_; clear hK K)
          refine wpStill_nil ?_
          go_wp2_with fail
          clear cg3 hg3
          go_roundw
          case rel => exact ⟨t + 1, S, by go_num, rfl, by omega, by omega, h3.quiet (Only.drew (Only.refl [] w3)), HK.out⟩
          case measure => simp [intOf]; omega
        · have he : S.addE k = 0 := by rw [addE_eq (by omega), if_neg hh, if_neg h8]
          have hd := qp_add HS.out k (by omega) (by omega)
          rw [he] at hd
          have HA := Lib.hid hd
          have HE := Lib.hid he
          have HHF := Lib.hid hh'
          have HHT := Lib.hid (show (S.addS k).has k = true by rw [has_add he]; simp)
          have d8 : decide ((S.lanes.length : Int) < 8) = true := by simp; omega
          clear hd he hh hh'
          go_wp2_with fail
          refine HA.out.mono ?_
          rintro e w1 ⟨rfl, h1⟩
          have hg1 := h1.kept List.mem_cons_self
          have cg := row_cell hg1 k hk16
          rw [HHF.out] at cg
          have fg := frozen_of hg1 k
          clear HA
          go_wp2_with fail
          refine wp_region_reads mixed (by kernel_rfl) ?_
          ((with_reducible refine wpStill_op ?_ ?_ ?_); (focus kernel_rfl); (focus kernel_rfl); intro K hK; go_step; refine hK _ ?_; clear hK K)
          still_call (num_still _ _)
          iterate 7 ((with_reducible refine wpStill_op ?_ ?_ ?_); (focus kernel_rfl); (focus kernel_rfl); intro K hK; go_step; refine hK _ ?_; clear hK K)
          iterate 4 ((with_reducible refine wpStill_op ?_ ?_ ?_); (focus kernel_rfl); (focus kernel_rfl); intro K hK; go_step; refine hK _ ?_; clear hK K)
          refine wpStill_nil ?_
          go_upto_region 23 with (go_at_call 13; refine (num_any _ _).mono ?_; rintro e w' ⟨rfl, rfl⟩)
          have h2 := (h1.setKept HG.out k (.bool true)).quiet (Only.drew (Only.refl [] _))
          rw [row_add hk16 HE.out] at h2
          clear cg hg1 fg h1
          generalize (w1.setCell ⟨g, k, none⟩ (.bool true)).drew = w2 at *
          have hdr := qp_drain h2 k (by omega) (by omega)
          have hde : (S.addS k).drainE k = 0 := by rw [drainE_eq, if_pos HHT.out]
          rw [hde, if_pos rfl] at hdr
          have HDR := Lib.hid hdr
          clear hdr hde h2
          go_wp2_with (go_at_call 13; refine (num_any _ _).mono ?_; rintro e w' ⟨rfl, rfl⟩)
          refine HDR.out.mono ?_
          rintro e w3 ⟨rfl, h3⟩
          have hg3 := h3.kept List.mem_cons_self
          have cg3 := row_cell hg3 k hk16
          rw [HHT.out] at cg3
          clear HDR
          go_wp2_with fail
          refine wp_region_reads mixed (by kernel_rfl) ?_
          ((with_reducible refine wpStill_op ?_ ?_ ?_); (focus kernel_rfl); (focus kernel_rfl); intro K hK; go_step; refine hK _ ?_; clear hK K)
          still_call (num_still _ _)
          iterate 6 ((with_reducible refine wpStill_op ?_ ?_ ?_); (focus kernel_rfl); (focus kernel_rfl); intro K hK; go_step; refine hK _ ?_; clear hK K)
          refine wpStill_nil ?_
          go_wp2_with fail
          clear cg3 hg3
          go_roundw
          case rel => exact ⟨t + 1, (S.addS k).drainS k, by go_num, by rw [len_drain, len_add HE.out]; go_num, by omega, by omega, by rw [row_drain]; exact h3.quiet (Only.drew (Only.refl [] w3)), (HK.out.add k).drain k⟩
          case measure => simp [intOf]; omega
    · by_cases hh : S.has k = true
      · have he : S.dropE k = 0 := by rw [HK.out.dropE, if_pos hh]
        have hd := qp_drop HS.out k (by omega) (by omega)
        rw [he] at hd
        have HA := Lib.hid hd
        have HHT := Lib.hid hh
        have hld := len_drop HS.out.ok.nodup hh he
        have hl1 : 1 ≤ S.lanes.length := by omega
        have HLD := Lib.hid (And.intro hld he)
        clear hd he hh hld
        go_wp2_with fail
        refine HA.out.mono ?_
        rintro e w1 ⟨rfl, h1⟩
        have hg1 := h1.kept List.mem_cons_self
        have cg := row_cell hg1 k hk16
        rw [HHT.out] at cg
        have fg := frozen_of hg1 k
        clear HA
        go_wp2_with fail
        refine wp_region_reads mixed (by kernel_rfl) ?_
        ((with_reducible refine wpStill_op ?_ ?_ ?_); (focus kernel_rfl); (focus kernel_rfl); intro K hK; go_step; refine hK _ ?_; clear hK K)
        still_call (num_still _ _)
        iterate 6 ((with_reducible refine wpStill_op ?_ ?_ ?_); (focus kernel_rfl); (focus kernel_rfl); intro K hK; go_step; refine hK _ ?_; clear hK K)
        refine wpStill_nil ?_
        go_wp2_with fail
        have h2 := (h1.quiet (Only.drew (Only.refl [] w1))).setKept HG.out k (.bool false)
        rw [row_drop hk16 HLD.out.2] at h2
        have KT := HK.out.drop k
        clear h1 hg1 cg fg
        go_roundw
        case rel => exact ⟨t + 1, S.dropS k, by go_num, by congr 1; have := HLD.out.1; omega, by omega, by omega, h2, KT⟩
        case measure => simp [intOf]; omega
      · have hh' : S.has k = false := by simpa using hh
        have he : S.dropE k = 2002 := by rw [HK.out.dropE, if_neg hh]
        have hs : S.dropS k = S := by unfold Q.dropS; rw [if_neg (by rw [he]; decide)]
        have hd := qp_drop HS.out k (by omega) (by omega)
        rw [he, hs] at hd
        have HA := Lib.hid hd
        have HHT := Lib.hid hh'
        clear hd he hh hh' hs
        go_wp2_with fail
        refine HA.out.mono ?_
        rintro e w1 ⟨rfl, h1⟩
        have hg1 := h1.kept List.mem_cons_self
        have cg := row_cell hg1 k hk16
        rw [HHT.out] at cg
        clear HA
        go_wp2_with fail
        refine wp_region_reads mixed (by kernel_rfl) ?_
        ((with_reducible refine wpStill_op ?_ ?_ ?_); (focus kernel_rfl); (focus kernel_rfl); intro K hK; go_step; refine hK _ ?_; clear hK K)
        still_call (num_still _ _)
        iterate 6 ((with_reducible refine wpStill_op ?_ ?_ ?_); (focus kernel_rfl); (focus kernel_rfl); intro K hK; go_step; refine hK _ ?_; clear hK K)
        refine wpStill_nil ?_
        go_wp2_with fail
        clear cg
        go_roundw
        case rel => exact ⟨t + 1, S, by go_num, rfl, by omega, by omega, h1.quiet (Only.drew (Only.refl [] w1)), HK.out⟩
        case measure => simp [intOf]; omega

/- The row's step. -/
set_option maxRecDepth 100000 in
theorem lifted (os : Os) (started : os.Started) (H : Type) (enc : TypeId × Value → H) :
    ReturnsInHanded {} Try.checked os 5 .any (Rows.queueLinksSpec.pre6 enc Try.prog Try.f5 Rows.queueLinksRow.domain false) (Rows.queueLinksSpec.post enc Try.prog Try.f5 false true false false) := by
  refine returnsInHanded_of_change (C := Try.checked) own started (by kernel_rfl) Try.func5
    (ChangeSpec.witness6 (enc := enc) (C := Try.checked) false ⟨#[], #[.slice none 0 0], []⟩ 8 (by kernel_rfl) (by kernel_rfl) (by kernel_rfl) (by kernel_rfl)) ?_
  intro W base args ds gs before hval0 hW hcnd _
  have hval : ∀ (j : Nat) t v, Try.f5.params[j]? = some t → args[j]? = some v → Value.okWide Try.prog W .any base t v := hval0
  have hW' := hW
  obtain ⟨p, q, hA0, hV, rfl, hfz, hnd⟩ := hW
  have hA : DataW.TrodAll enc Try.prog W 0 (fun _ => true) true Try.f5.params.toList args.toList ds p := hA0
  rw [Try.params5] at hA hval
  obtain ⟨v0, vs0, d0, ds0, p0, q0, hargs, rfl, rfl, h0, r0⟩ := trodAll_cons hA
  obtain ⟨rfl, rfl, rfl⟩ := trodAll_nil r0
  obtain rfl : args = #[v0] := by cases args; simp_all
  obtain ⟨rfl, rfl⟩ := trodVars_none hV
  obtain ⟨a0, len0, cap0, rfl⟩ := okWide_slice Try.underlying40 (hval 0 40 v0 rfl rfl)
  have k0 := h0
  have lt0 : ∀ x ∈ p0, x.block < W.heap.size := by obtain ⟨m, hm⟩ := k0; exact DataW.trod_lt m _ _ _ hm
  obtain ⟨z0, w0⟩ : ∃ zs, IsRow .i64 W a0 len0 cap0 zs := by
    obtain ⟨fuel, hf⟩ := h0
    rcases open_ints Try.underlying40 Try.underlying3 (by kernel_rfl) hf with ⟨hcs, _⟩ | ⟨x, l, c, zs, hcs, _, hl, hm, hz, _, hcell, hwz⟩
    · simp [Value.cells] at hcs
      obtain ⟨rfl, rfl, rfl⟩ := hcs
      exact ⟨[], .inl ⟨rfl, rfl, rfl, rfl⟩⟩
    · simp [Value.cells] at hcs
      obtain ⟨rfl, rfl, rfl⟩ := hcs
      exact ⟨zs, .inr ⟨_, rfl, hl, hm, by simpa using hz, hcell, hwz⟩⟩
  clear hA0 hval0
  refine (walk a0 len0 cap0 z0 W w0).mono fun e W' ⟨he, bel⟩ => ?_
  subst he
  exact ⟨_, rfl, _, _, _, [], _, [], hW', trodAll_mk1 (shut_bool Try.underlying4 _), (trodAll_cons_mk (Below.trod laidOut (by kernel_rfl) (of_decide_eq_true (by kernel_rfl)) k0 bel lt0) trodAll_mk0), rfl, bel.frame _, fun h => by cases h⟩

theorem over : Rows.queueLinksRow.holds Try.pinned (OpenSpec.ofChange Rows.queueLinksSpec) :=
  OpenClaim.holds_of_wide 5 Try.f5 rfl rfl rfl rfl rfl rfl rfl ⟨rfl, rfl, rfl, rfl, rfl⟩ rfl rfl rfl rfl rfl (by kernel_rfl) Try.func5 (by kernel_rfl)
    (of_decide_eq_true (by kernel_rfl)) (by unfold Func.isWrapper; first | (rw [if_pos (by decide +kernel)]; kernel_rfl) | (rw [if_neg (by decide +kernel)]; exact ⟨rfl, rfl⟩))
    (fun os started H enc _ => lifted os started H enc)

/-- The statement. -/
theorem proved : Rows.QueueLinksSaid := over
#print axioms proved
end Go.Proofs.Ytjcndeanojeffaa.queueLinks

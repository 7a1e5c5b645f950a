/- Chapter 19: contracts of the document's own reassembly: the first one held; what is let go. -/
import Derived.Test.YtcfgbfabokhjcaaRFns2
namespace Go.Proofs.Ytcfgbfabokhjcaa
open Go.RowKit
open Plain

set_option maxRecDepth 100000 in
set_option maxHeartbeats 2000000 in
theorem rfirst_any (m : RM) (S : J) (w : World) (h : RJ w m S) (hne : 0 < S.held.length) :
    Calls Try.prog 40 #[.pointer (some ⟨m.r, 0, none⟩)] w fun e w' => ∃ k, ∃ hk : k < S.held.length, e = .returned (.int .i64 k) ∧ off S.R S.next S.held[k].q = S.least ∧ Only [] w w' := by
  have HH := Lib.hid h
  have hln := h.ok.count
  clear h
  obtain ⟨r, al, cl, ah, ch⟩ := m
  go_enter Try.func40, Try.ntmps40
  go_wp2_with fail
  go_loopw [3, 4] (fun a i wr => ∃ (k j : Nat) (hk : k < S.held.length), a = .int .i64 k ∧ i = .int .i64 j ∧ 1 ≤ j ∧ j ≤ S.held.length ∧ (∀ x (hx : x < S.held.length), x < j → off S.R S.next S.held[k].q ≤ off S.R S.next S.held[x].q) ∧ Only [] w wr) (fun _ i _ => S.held.length - (intOf i).toNat)
  case atStart =>
    refine ⟨0, 1, hne, rfl, rfl, by omega, by omega, fun x hx c => ?_, Only.refl _ _⟩
    have : x = 0 := by omega
    subst this
    exact Int.le_refl _
  case round =>
    obtain ⟨k, j, hk, rfl, rfl, hj1, hj2, hall, ho⟩ := hrel
    have HA := Lib.hid hall
    have hR := HH.out.quiet ho
    have c3 : wr.cell? ⟨r, 3, none⟩ = some (.slice ah S.held.length ch) := hR.c3
    have HO := Lib.hid ho
    clear hall ho
    by_cases hlt : j < S.held.length
    · have kd : decide (j < S.held.length) = true := by simpa using hlt
      obtain ⟨gb, go, hah⟩ := hR.held.some (by omega)
      have hah' : ah = some ⟨gb, go, none⟩ := hah
      subst hah'
      have hRd := hR.drew
      have c3d : wr.drew.cell? ⟨r, 3, none⟩ = some (.slice (some ⟨gb, go, none⟩) S.held.length ch) := hRd.c3
      have f2 := hRd.held.cells _ _ (Cutp.flatF_get S.held j hlt).2.2.1
      have g2 := hRd.held.cells _ _ (Cutp.flatF_get S.held k hk).2.2.1
      simp only [← Nat.add_assoc] at f2 g2
      have hfj := hR.ok.frag _ (List.getElem_mem hlt)
      have hfk := hR.ok.frag _ (List.getElem_mem hk)
      have hoj := roff_still _ S S.held[j].q wr.drew hRd hfj.1 hfj.2.1
      have hok := roff_still _ S S.held[k].q wr.drew hRd hfk.1 hfk.2.1
      simp only at hoj hok
      have HOJ := Lib.hid hoj
      have HOK := Lib.hid hok
      have hcase : (decide (off S.R S.next S.held[j].q < off S.R S.next S.held[k].q) = true ∧ ∀ x (hx : x < S.held.length), x < j + 1 → off S.R S.next S.held[j].q ≤ off S.R S.next S.held[x].q) ∨ (decide (off S.R S.next S.held[j].q < off S.R S.next S.held[k].q) = false ∧ ∀ x (hx : x < S.held.length), x < j + 1 → off S.R S.next S.held[k].q ≤ off S.R S.next S.held[x].q) := by
        by_cases c : off S.R S.next S.held[j].q < off S.R S.next S.held[k].q
        · refine .inl ⟨by simpa using c, fun x hx hxj => ?_⟩
          by_cases e : x = j
          · subst e; exact Int.le_refl _
          · have := HA.out x hx (by omega); omega
        · refine .inr ⟨by simpa using c, fun x hx hxj => ?_⟩
          by_cases e : x = j
          · subst e; omega
          · exact HA.out x hx (by omega)
      clear hR hRd hoj hok hfj hfk HA
      generalize hqj : S.held[j].q = qj at *
      generalize hqk : S.held[k].q = qk at *
      have HQJ := Lib.hid hqj
      have HQK := Lib.hid hqk
      clear hqj hqk
      rcases hcase with ⟨d, hnew⟩ | ⟨d, hnew⟩
      · have HN := Lib.hid hnew
        clear hnew
        go_upto_region 5 with fail
        refine wp_region_reads mixed (by kernel_rfl) ?_
        iterate 9 ((with_reducible refine wpStill_op ?_ ?_ ?_); (focus kernel_rfl); (focus kernel_rfl); intro K hK; go_step; refine hK _ ?_; clear hK K)
        still_call HOJ.out
        iterate 9 ((with_reducible refine wpStill_op ?_ ?_ ?_); (focus kernel_rfl); (focus kernel_rfl); intro K hK; go_step; refine hK _ ?_; clear hK K)
        still_call HOK.out
        iterate 1 ((with_reducible refine wpStill_op ?_ ?_ ?_); (focus kernel_rfl); (focus kernel_rfl); intro K hK; go_step; refine hK _ ?_; clear hK K)
        refine wpStill_nil ?_
        clear f2 g2 c3d c3
        go_wp2_with fail
        go_roundw
        case rel => exact ⟨j, j + 1, hlt, rfl, by go_num, by omega, by omega, by rw [HQJ.out]; exact HN.out, HO.out.drew⟩
        case measure => simp [intOf]; omega
      · have HN := Lib.hid hnew
        clear hnew
        go_upto_region 5 with fail
        refine wp_region_reads mixed (by kernel_rfl) ?_
        iterate 9 ((with_reducible refine wpStill_op ?_ ?_ ?_); (focus kernel_rfl); (focus kernel_rfl); intro K hK; go_step; refine hK _ ?_; clear hK K)
        still_call HOJ.out
        iterate 9 ((with_reducible refine wpStill_op ?_ ?_ ?_); (focus kernel_rfl); (focus kernel_rfl); intro K hK; go_step; refine hK _ ?_; clear hK K)
        still_call HOK.out
        iterate 1 ((with_reducible refine wpStill_op ?_ ?_ ?_); (focus kernel_rfl); (focus kernel_rfl); intro K hK; go_step; refine hK _ ?_; clear hK K)
        refine wpStill_nil ?_
        clear f2 g2 c3d c3
        go_wp2_with fail
        go_roundw
        case rel => exact ⟨k, j + 1, hk, rfl, by go_num, by omega, by omega, by rw [HQK.out]; exact HN.out, HO.out.drew⟩
        case measure => simp [intOf]; omega
    · have kd : decide (j < S.held.length) = false := by simpa using hlt
      have HE := Lib.hid (least_at hR.ok hk (fun x hx => HA.out x hx (by omega)))
      clear hR
      go_wp2_with fail
      go_ret
      exact ⟨k, hk, rfl, HE.out, HO.out⟩

set_option maxRecDepth 100000 in
set_option maxHeartbeats 2000000 in
theorem rlet_any (m : RM) (S : J) (k : Nat) (w : World) (h : RJ w m S) (hk : k < S.held.length) :
    Calls Try.prog 41 #[.pointer (some ⟨m.r, 0, none⟩), .int .i64 k] w fun e w' => ∃ m', e = .returned (.tuple #[]) ∧ RJ w' m' (S.outAt k) ∧ RStep w w' m m' := by
  obtain ⟨i39, hi39, hz39, hsz39, hby39⟩ := info_parts Cutp.info39
  have HH := Lib.hid h
  have hln := h.ok.count
  have HOk := Lib.hid (outAt_ok h.ok k)
  clear h
  obtain ⟨r, al, cl, ah, ch⟩ := m
  obtain ⟨gb, go, hah⟩ := HH.out.held.some (by omega)
  have hah' : ah = some ⟨gb, go, none⟩ := hah
  subst hah'
  have hcap : S.held.length ≤ ch := HH.out.held.2.1
  have hcm : ch ≤ 9223372036854775807 := by have := HH.out.held.2.2.1; unfold maxLen at this; exact Nat.le_trans this (by omega)
  have c3 : w.cell? ⟨r, 3, none⟩ = some (.slice (some ⟨gb, go, none⟩) S.held.length ch) := HH.out.c3
  have hsh : Sl w 33 4 (some ⟨gb, go, none⟩) k ch (Cutp.flatF (S.held.take k)) := by
    have := Sl.hi HH.out.held k (by show k ≤ S.held.length; omega)
    rw [flatF_take] at this
    exact this
  have hnil := Sl.nil w 33 4
  go_enter Try.func41, Try.ntmps41
  go_upto_region 2 with (at_builtin; refine wpList_append_src _ rfl (.tmp 5) (.tmp 11) 46 rfl 33 i39 _ 4 32 Try.underlying46 hi39 hz39 hsz39 hby39 rfl _ _ _ _ rfl hnil _ _ _ _ rfl (frs_src hsh) (by unfold maxLen; omega) (by omega) ?_; intro ao1 cap1 w1 hs1 hg1 hb1)
  have o1 : Only [] w w1 := Only.of_grown hg1 (fun k hk => by simp [blk] at hk)
  have H1 := HH.out.quiet o1
  have d3 : w1.cell? ⟨r, 3, none⟩ = some (.slice (some ⟨gb, go, none⟩) S.held.length ch) := H1.c3
  have hlo : Sl w1 33 4 (if ch = k + 1 then some ⟨gb, go, none⟩ else some ⟨gb, go + (k + 1) * 4, none⟩) (S.held.length - (k + 1)) (ch - (k + 1)) (Cutp.flatF (S.held.drop (k + 1))) := by
    have := Sl.lo H1.held (k + 1) (by show k + 1 ≤ S.held.length; omega)
    rw [flatF_drop] at this
    exact this
  rw [Nat.zero_add] at hs1
  have hlen : k + (S.held.length - (k + 1)) ≤ 129 := by omega
  have hHEnd : ∀ ao2 cap2 w2, Sl w2 33 4 ao2 (k + (S.held.length - (k + 1))) cap2 (([] ++ Cutp.flatF (S.held.take k)) ++ Cutp.flatF (S.held.drop (k + 1))) → w1.grownBy w2 (blk ao1) → (blk ao2 = blk ao1 ∨ blk ao2 = some w1.heap.size) →
      w2.cell? ⟨r, 3, none⟩ = some (.slice (some ⟨gb, go, none⟩) S.held.length ch) ∧ w2.frozen? ⟨r, 3, none⟩ = false ∧ Hid (RJ (w2.setCell ⟨r, 3, none⟩ (.slice ao2 (k + (S.held.length - (k + 1))) cap2)) ⟨r, al, cl, ao2, cap2⟩ (S.outAt k) ∧ RStep w (w2.setCell ⟨r, 3, none⟩ (.slice ao2 (k + (S.held.length - (k + 1))) cap2)) ⟨r, al, cl, some ⟨gb, go, none⟩, ch⟩ ⟨r, al, cl, ao2, cap2⟩) := by
    intro ao2 cap2 w2 hs2 hg2 hb2
    have hb1 : ∀ j, blk ao1 = some j → w.heap.size ≤ j := fun j hj => by
      rcases hb1 with e | e
      · rw [e] at hj; simp [blk] at hj
      · rw [e] at hj; simp at hj; omega
    have o2 : Only [] w w2 := o1.trans' (Only.of_grown (S := (blk ao1).toList) hg2 (fun j hj => by rw [hj]; simp)) (fun x hx => .inr (hb1 x (by simpa using hx)))
    have hb : ∀ j, blk ao2 = some j → w.heap.size ≤ j := fun j hj => by
      rcases hb2 with e | e
      · exact hb1 j (e.symm.trans hj)
      · rw [e] at hj; simp at hj; have := o1.size; omega
    have hfl : ([] ++ Cutp.flatF (S.held.take k)) ++ Cutp.flatF (S.held.drop (k + 1)) = Cutp.flatF (outL S.held k) := by
      unfold outL
      rw [flatF_app]
      rfl
    rw [hfl] at hs2
    have hset := HH.out.setHeld (H := outL S.held k) o2 (by simp) hs2 (by have := out_len hk; omega) (fun j hj => .inr (hb j hj)) HOk.out
    have H2 := HH.out.quiet o2
    exact ⟨H2.c3, H2.fz 3, hset⟩
  have HEnd := Lib.hid hHEnd
  clear hg1 hb1 hsh hnil c3 H1 hHEnd o1
  by_cases hc : ch = k + 1
  · rw [if_pos hc, show ch - (k + 1) = 0 by omega] at hlo
    have hz : S.held.length - (k + 1) = 0 := by omega
    have hend0 := HEnd.out
    rw [hz] at hlo
    simp only [hz, Nat.add_zero] at hend0
    have HEnd := Lib.hid hend0
    clear hend0 hz
    subst hc
    go_wp2_with (at_builtin; refine wpList_append_src _ rfl (.tmp 13) (.tmp 20) 46 rfl 33 i39 _ 4 32 Try.underlying46 hi39 hz39 hsz39 hby39 rfl _ _ _ _ rfl hs1 _ _ _ _ rfl (frs_src hlo) (by unfold maxLen; omega) (by omega) ?_; intro ao2 cap2 w2 hs2 hg2 hb2; (have e9 := HEnd.out _ _ _ hs2 hg2 hb2); clear hs2 hg2 hb2; obtain ⟨e3, z3, hend⟩ := e9)
    go_end0
    exact ⟨rfl, _, hend.out⟩
  · rw [if_neg hc] at hlo
    go_wp2_with (at_builtin; refine wpList_append_src _ rfl (.tmp 13) (.tmp 20) 46 rfl 33 i39 _ 4 32 Try.underlying46 hi39 hz39 hsz39 hby39 rfl _ _ _ _ rfl hs1 _ _ _ _ rfl (frs_src hlo) (by unfold maxLen; omega) (by omega) ?_; intro ao2 cap2 w2 hs2 hg2 hb2; (have e9 := HEnd.out _ _ _ hs2 hg2 hb2); clear hs2 hg2 hb2; obtain ⟨e3, z3, hend⟩ := e9)
    go_end0
    exact ⟨rfl, _, hend.out⟩
end Go.Proofs.Ytcfgbfabokhjcaa

/- Chapter 19: contracts of the document's own reassembly: step, whatever the state; New, Add, Drop. -/
import Derived.Test.YtcfgbfabokhjcaaRScan
namespace Go.Proofs.Ytcfgbfabokhjcaa
open Go.RowKit
open Plain

theorem step_any (m : RM) (S : J) (w : World) (h : RJ w m S) : Calls Try.prog 39 #[.pointer (some ⟨m.r, 0, none⟩)] w (StepPost m S w) := by
  rcases at_cases h.ok S.next with ⟨_, hg⟩ | ⟨k, hk, hat, hq, _⟩
  · exact rstep_none m S w h hg
  · cases hb : S.held[k].b with
    | false => exact rstep_open m S w h k hk hat hq hb
    | true => exact rstep_scan m S w h k hk hat hq hb

theorem rnew_good (short : Bool) (most : Int) (w : World) (h0 : 1 ≤ most) (h1 : most ≤ 128) :
    Calls Try.prog 13 #[.bool short, .int .i64 most] w fun e w' => ∃ m, e = .returned (.tuple #[.pointer (some ⟨m.r, 0, none⟩), .int .i64 0]) ∧ RJ w' m (J.new short most) ∧ Only [] w w' ∧ ∀ k ∈ m.foot, w.heap.size ≤ k := by
  have hb := heap_alloc_new' w (.cells #[.bool short, .int .i64 most, .slice none 0 0, .slice none 0 0, .int .i64 0, .int .i64 0] 48)
  have ho : Only [] w (w.alloc (.cells #[.bool short, .int .i64 most, .slice none 0 0, .slice none 0 0, .int .i64 0, .int .i64 0] 48)) := (Only.refl [] w).alloc _
  have hR : RJ (w.alloc (.cells #[.bool short, .int .i64 most, .slice none 0 0, .slice none 0 0, .int .i64 0, .int .i64 0] 48)) ⟨w.heap.size, none, 0, none, 0⟩ (J.new short most) := ⟨hb, Sl.nil _ _ _, Sl.nil _ _ _, by simp [blk], by simp [blk], by simp [blk], new_ok short most h0 h1⟩
  have HF := Lib.hid (And.intro hR ho)
  clear hb ho hR
  go_enter Try.func13, Try.ntmps13
  go_wp2
  go_ret2
  exact ⟨⟨w.heap.size, none, 0, none, 0⟩, rfl, HF.out.1, HF.out.2, fun k hk => by
    rcases RM.mem_foot hk with e | e | e
    · simp only at e; omega
    · simp [blk] at e
    · simp [blk] at e⟩
theorem rnew_bad (short : Bool) (most : Int) (w : World) (h : most < 1 ∨ 128 < most) :
    Calls Try.prog 13 #[.bool short, .int .i64 most] w fun e w' => e = .returned (.tuple #[.pointer none, .int .i64 1900]) ∧ w = w' := by
  by_cases h0 : most < 1
  · clear h
    go_enter Try.func13, Try.ntmps13
    go_wp2
    go_ret2
    exact ⟨rfl, rfl⟩
  · have h1 : 128 < most := by omega
    clear h
    go_enter Try.func13, Try.ntmps13
    go_wp2
    go_ret2
    exact ⟨rfl, rfl⟩

theorem pair_src {w : World} {ao : Option Addr} {cap n : Nat} {l : List (Int × Int)} (h : Sl w 75 2 ao n cap (flatL l)) : Src w 2 ao n (flatL l) := h.src (fun u hu => by
  unfold flatL at hu
  obtain ⟨f, _, hf⟩ := List.mem_flatMap.1 hu
  simp [pairCells] at hf
  rcases hf with rfl | rfl <;> rfl)
theorem two_cells (a b : Int) : ∀ u ∈ [Value.int .i64 a, Value.int .i64 b], u.oneCell' = true := by
  intro u hu
  simp at hu
  rcases hu with rfl | rfl <;> rfl
theorem info75 : (Try.prog.info? 75).map (fun i => (i.zero, i.size, i.bytes)) = some (some (.agg #[.int .i64 0, .int .i64 0]), 2, 16) := by kernel_rfl

set_option maxRecDepth 100000 in
set_option maxHeartbeats 2000000 in
theorem rdrop_any (m : RM) (S : J) (q : Int) (w : World) (h : RJ w m S) :
    Calls Try.prog 19 #[.pointer (some ⟨m.r, 0, none⟩), .int .i64 q] w fun e w' => ∃ m', e = .returned (.int .i64 (dropE S q)) ∧ RJ w' m' (dropS S q) ∧ RStep w w' m m' := by
  have hp := place_any m S q w h
  rcases place_cases S q with ⟨e1, e2⟩ | ⟨k, hk, e1, hq, e2⟩
  · rw [e1] at hp
    have he : dropE S q = 1902 := by unfold dropE; rw [e2]; rfl
    have hs : dropS S q = S := by unfold dropS; rw [e2]; rfl
    have HF := Lib.hid h
    rw [he, hs]
    clear h
    obtain ⟨r, al, cl, ah, ch⟩ := m
    go_enter Try.func19, Try.ntmps19
    go_wp2_with (go_at_call 31; refine hp.mono ?_; rintro e w' ⟨rfl, rfl⟩)
    go_ret
    exact ⟨_, rfl, HF.out, RStep.refl _ _⟩
  · rw [e1] at hp
    have he : dropE S q = 0 := by unfold dropE; rw [e2]; rfl
    have hs : dropS S q = { S with links := outL S.links k } := by
      unfold dropS
      rw [if_pos e2, out_eq (fun p => p.1) _ k hk h.ok.lnodup]
      simp only [hq]
    rw [he, hs]
    obtain ⟨i75, hi75, hz75, hsz75, hby75⟩ := info_parts info75
    have HH := Lib.hid h
    have hln := h.ok.links8
    have HOk := Lib.hid (filter_ok h.ok (outL S.links k) (out_sub _ _))
    clear h
    obtain ⟨r, al, cl, ah, ch⟩ := m
    obtain ⟨gb, go, hal⟩ := HH.out.links.some (by omega)
    have hal' : al = some ⟨gb, go, none⟩ := hal
    subst hal'
    have hcap : S.links.length ≤ cl := HH.out.links.2.1
    have hcm : cl ≤ 9223372036854775807 := by have := HH.out.links.2.2.1; unfold maxLen at this; exact Nat.le_trans this (by omega)
    have c2 : w.cell? ⟨r, 2, none⟩ = some (.slice (some ⟨gb, go, none⟩) S.links.length cl) := HH.out.c2
    have hsh : Sl w 75 2 (some ⟨gb, go, none⟩) k cl (flatL (S.links.take k)) := by
      have := Sl.hi HH.out.links k (by show k ≤ S.links.length; omega)
      rw [flatL_take] at this
      exact this
    have hnil := Sl.nil w 75 2
    have kl : (k : Int) ≤ 8 := by omega
    clear e1 e2 hq he hs
    go_enter Try.func19, Try.ntmps19
    go_upto_region 6 with (first | (go_at_call 31; refine hp.mono ?_; rintro e w' ⟨rfl, rfl⟩) | (at_builtin; refine wpList_append_src _ rfl (.tmp 12) (.tmp 18) 45 rfl 75 i75 _ 2 16 Try.underlying45 hi75 hz75 hsz75 hby75 rfl _ _ _ _ rfl hnil _ _ _ _ rfl (pair_src hsh) (by unfold maxLen; omega) (by omega) ?_; intro ao1 cap1 w1 hs1 hg1 hb1))
    have o1 : Only [] w w1 := Only.of_grown hg1 (fun k hk => by simp [blk] at hk)
    have H1 := HH.out.quiet o1
    have d2 : w1.cell? ⟨r, 2, none⟩ = some (.slice (some ⟨gb, go, none⟩) S.links.length cl) := H1.c2
    have hlo : Sl w1 75 2 (if cl = k + 1 then some ⟨gb, go, none⟩ else some ⟨gb, go + (k + 1) * 2, none⟩) (S.links.length - (k + 1)) (cl - (k + 1)) (flatL (S.links.drop (k + 1))) := by
      have := Sl.lo H1.links (k + 1) (by show k + 1 ≤ S.links.length; omega)
      rw [flatL_drop] at this
      exact this
    rw [Nat.zero_add] at hs1
    have hlen : k + (S.links.length - (k + 1)) ≤ 129 := by omega
    have hHEnd : ∀ ao2 cap2 w2, Sl w2 75 2 ao2 (k + (S.links.length - (k + 1))) cap2 (([] ++ flatL (S.links.take k)) ++ flatL (S.links.drop (k + 1))) → w1.grownBy w2 (blk ao1) → (blk ao2 = blk ao1 ∨ blk ao2 = some w1.heap.size) →
        w2.cell? ⟨r, 2, none⟩ = some (.slice (some ⟨gb, go, none⟩) S.links.length cl) ∧ w2.frozen? ⟨r, 2, none⟩ = false ∧ Hid (RJ (w2.setCell ⟨r, 2, none⟩ (.slice ao2 (k + (S.links.length - (k + 1))) cap2)) ⟨r, ao2, cap2, ah, ch⟩ { S with links := outL S.links k } ∧ RStep w (w2.setCell ⟨r, 2, none⟩ (.slice ao2 (k + (S.links.length - (k + 1))) cap2)) ⟨r, some ⟨gb, go, none⟩, cl, ah, ch⟩ ⟨r, ao2, cap2, ah, ch⟩) := by
      intro ao2 cap2 w2 hs2 hg2 hb2
      have hb1 : ∀ j, blk ao1 = some j → w.heap.size ≤ j := fun j hj => by
        rcases hb1 with e | e
        · rw [e] at hj; simp [blk] at hj
        · rw [e] at hj; simp at hj; omega
      have o2 : Only [] w w2 := o1.trans' (Only.of_grown (S := (blk ao1).toList) hg2 (fun j hj => by rw [hj]; simp)) (fun x hx => .inr (hb1 x (by simpa using hx)))
      have hb : ∀ j, blk ao2 = some j → w.heap.size ≤ j := fun j hj => by
        rcases hb2 with e | e
        · exact hb1 j (e.symm.trans hj)
        · rw [e] at hj; simp at hj; have := o1.size; omega
      have hfl : ([] ++ flatL (S.links.take k)) ++ flatL (S.links.drop (k + 1)) = flatL (outL S.links k) := by
        unfold outL
        rw [flatL_app]
        rfl
      rw [hfl] at hs2
      have hset := HH.out.setLinks (H := outL S.links k) o2 (by simp) hs2 (by have := out_len hk; omega) (fun j hj => .inr (hb j hj)) HOk.out
      have H2 := HH.out.quiet o2
      exact ⟨H2.c2, H2.fz 2, hset⟩
    have HEnd := Lib.hid hHEnd
    clear hg1 hb1 hsh hnil c2 H1 hHEnd o1 hp
    by_cases hc : cl = k + 1
    · rw [if_pos hc, show cl - (k + 1) = 0 by omega] at hlo
      have hz : S.links.length - (k + 1) = 0 := by omega
      have hend0 := HEnd.out
      rw [hz] at hlo
      simp only [hz, Nat.add_zero] at hend0
      have HEnd := Lib.hid hend0
      clear hend0 hz
      subst hc
      go_wp2_with (at_builtin; refine wpList_append_src _ rfl (.tmp 20) (.tmp 27) 45 rfl 75 i75 _ 2 16 Try.underlying45 hi75 hz75 hsz75 hby75 rfl _ _ _ _ rfl hs1 _ _ _ _ rfl (pair_src hlo) (by unfold maxLen; omega) (by omega) ?_; intro ao2 cap2 w2 hs2 hg2 hb2; (have e9 := HEnd.out _ _ _ hs2 hg2 hb2); clear hs2 hg2 hb2; obtain ⟨e3, z3, hend⟩ := e9)
      go_ret
      exact ⟨_, rfl, hend.out⟩
    · rw [if_neg hc] at hlo
      go_wp2_with (at_builtin; refine wpList_append_src _ rfl (.tmp 20) (.tmp 27) 45 rfl 75 i75 _ 2 16 Try.underlying45 hi75 hz75 hsz75 hby75 rfl _ _ _ _ rfl hs1 _ _ _ _ rfl (pair_src hlo) (by unfold maxLen; omega) (by omega) ?_; intro ao2 cap2 w2 hs2 hg2 hb2; (have e9 := HEnd.out _ _ _ hs2 hg2 hb2); clear hs2 hg2 hb2; obtain ⟨e3, z3, hend⟩ := e9)
      go_ret
      exact ⟨_, rfl, hend.out⟩
end Go.Proofs.Ytcfgbfabokhjcaa

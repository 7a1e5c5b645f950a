/- The contract of chapter 20's Submit. -/
import Derived.Test.YtjcndeanojeffaaFns2
namespace Go.Proofs.Ytjcndeanojeffaa
open Go.RowKit
open Plain

theorem info9 : (Try.prog.info? 9).map (fun i => (i.zero, i.size, i.bytes)) = some (some (.string ⟨#[]⟩), 1, 16) := by kernel_rfl
/-- the packets turned. -/
theorem PQ.setPacks {w w2 : World} {m : Mem} {S : Q} (h : PQ w m S) {ao : Option Addr} {cap n : Nat} {ps : List ByteArray} (hn : ps.length = n) (o : Only (blk m.ap).toList w w2) (hs : Sl w2 9 1 ao n cap (ps.map Value.string)) (hb : ∀ j, blk ao = some j → blk m.ap = some j ∨ w.heap.size ≤ j) :
    PQ (w2.setCell ⟨m.p, 3, none⟩ (.slice ao n cap)) { m with ap := ao, cp := cap } { S with packs := ps } ∧ Step w (w2.setCell ⟨m.p, 3, none⟩ (.slice ao n cap)) m { m with ap := ao, cp := cap } := by
  subst hn
  have hsep := h.sep
  have hlt := h.lt
  have hsep' : ([m.p, m.bo, m.bl] ++ ((blk m.ap).toList ++ m.M.flatMap LM.foot)).Nodup := hsep
  have hnp : (blk ao).toList.Nodup := by cases blk ao <;> simp
  have hbb : ∀ j ∈ (blk ao).toList, j ∈ (blk m.ap).toList ∨ w.heap.size ≤ j := fun j hj => (hb j (blk_mem.1 hj)).imp blk_mem.2 id
  have hnew := swap_nodup hsep' hnp hbb (fun j hj => hlt j (List.mem_append_left _ hj)) (fun j hj => hlt j (List.mem_append_right [m.p, m.bo, m.bl] (List.mem_append_right _ hj)))
  have hd : ∀ j ∈ [m.p, m.bo, m.bl], j ∉ (blk m.ap).toList := fun j hj hj2 => (List.nodup_append.1 hsep').2.2 j hj j (List.mem_append_left _ hj2) rfl
  have hdM : ∀ j ∈ m.M.flatMap LM.foot, j ∉ (blk m.ap).toList := fun j hj hj2 => (List.nodup_append.1 (List.nodup_append.1 hsep').2.1).2.2 j hj2 j hj rfl
  have hpM : ∀ j ∈ m.M.flatMap LM.foot, j ≠ m.p := fun j hj e => (List.nodup_append.1 hsep').2.2 m.p (by simp) j (List.mem_append_right _ hj) e.symm
  have hps : m.p ≠ m.bo ∧ m.p ≠ m.bl := by
    have := (List.nodup_append.1 hsep').1
    simp at this
    exact ⟨this.1.1, this.1.2⟩
  have o3 : Only [m.p] w2 (w2.setCell ⟨m.p, 3, none⟩ (.slice ao ps.length cap)) := (Only.refl _ _).setCell (.inl (by simp)) _
  have hpa : ∀ j, blk ao = some j → j ≠ m.p := fun j hj e => by
    rcases hb j hj with e1 | e1
    · exact hd m.p (by simp) (blk_mem.2 (e ▸ e1))
    · have := hlt m.p m.p_in
      omega
  have hobj := o.at h.obj (hd m.p (by simp))
  refine ⟨⟨?_, hs.only o3 (fun j hj => by simpa using hpa j hj), ?_, ?_, fun x hx => ?_, h.same, hnew⟩, rfl, ?_, fun j hj => ?_⟩
  · have := heap_setCell_same (o := 3) hobj (.slice ao ps.length cap)
    simpa using this
  · have h2 := h.opn.same (o.block _ h.opn.lt (hd m.bo (by simp)))
    exact h2.same (o3.block _ h2.lt (by simpa using Ne.symm hps.1))
  · have h2 := h.lanes.same (o.block _ h.lanes.lt (hd m.bl (by simp)))
    exact h2.same (o3.block _ h2.lt (by simpa using Ne.symm hps.2))
  · have hf : ∀ j ∈ x.foot, j ∈ m.M.flatMap LM.foot := fun j hj => List.mem_flatMap.2 ⟨x, hx, hj⟩
    exact ((h.at_ x hx).only o (fun j hj => hdM j (hf j hj))).only o3 (fun j hj => by simpa using hpM j (hf j hj))
  · exact (o.mono (fun j hj => m.ap_in (blk_mem.1 hj))).trans (o3.mono (fun j hj => by rw [List.mem_singleton.1 hj]; exact m.p_in))
  · have hj' : j ∈ [m.p, m.bo, m.bl] ++ ((blk ao).toList ++ m.M.flatMap LM.foot) := hj
    rcases List.mem_append.1 hj' with hj1 | hj1
    · exact .inl (List.mem_append_left ((blk m.ap).toList ++ m.M.flatMap LM.foot) hj1)
    · rcases List.mem_append.1 hj1 with hj2 | hj2
      · rcases hbb j hj2 with e | e
        · exact .inl (List.mem_append_right [m.p, m.bo, m.bl] (List.mem_append_left _ e))
        · exact .inr e
      · exact .inl (List.mem_append_right [m.p, m.bo, m.bl] (List.mem_append_right _ hj2))

theorem cells_one_new (w : World) (v : Value) (t : TypeId) : ∀ j u, [v][j]? = some u → (w.alloc (.cells #[v] t)).cell? ((⟨w.heap.size, 0, none⟩ : Addr).add j) = some u := by
  intro j u hu
  rw [Addr.add_lit, cell_of (heap_alloc_new' w _)]
  simpa using hu

set_option maxHeartbeats 1000000 in
theorem submit_any (m : Mem) (S : Q) (s : ByteArray) (w : World) (h : PQ w m S) (hok : S.Ok) (hs : s.size ≤ 9223372036854775807) :
    Calls Try.prog 10 #[.pointer (some ⟨m.p, 0, none⟩), .string s] w fun e w' => e = .returned (.int .i64 (S.submitE s)) ∧ ∃ m', PQ w' m' (S.submitS s) ∧ Step w w' m m' := by
  by_cases h1 : s.size < 1 ∨ 1500 < s.size
  · have hm : mayB s.size = false := by simp [mayB]; omega
    have he : S.submitE s = 2000 := by unfold Q.submitE; rw [if_pos h1]
    have hss : S.submitS s = S := by unfold Q.submitS; rw [if_neg (by rw [he]; decide)]
    have HF := Lib.hid (And.intro h (Step.refl w m))
    rw [he, hss]
    clear h he hss h1
    go_enter Try.func10, Try.ntmps10
    go_wp2_with (go_at_call 17; refine (may17 _ _).mono ?_; rintro e w' ⟨rfl, rfl⟩)
    go_ret
    exact ⟨rfl, m, HF.out⟩
  have hm : mayB s.size = true := by simp [mayB]; omega
  by_cases h2 : 64 ≤ S.len
  · have he : S.submitE s = 2001 := by unfold Q.submitE; rw [if_neg h1, if_pos h2]
    have hss : S.submitS s = S := by unfold Q.submitS; rw [if_neg (by rw [he]; decide)]
    have d2 : decide (64 ≤ (S.len : Int)) = true := by simp; omega
    have HL := Lib.hid (len_any m S w h hok)
    rw [he, hss]
    clear h he hss h1
    go_enter Try.func10, Try.ntmps10
    go_wp2_with (first | (go_at_call 17; refine (may17 _ _).mono ?_; rintro e w' ⟨rfl, rfl⟩) | (go_at_call 14; refine HL.out.mono ?_; rintro e w1 ⟨rfl, o1, q1⟩))
    go_ret
    exact ⟨rfl, m, q1, Step.quiet o1⟩
  · have he : S.submitE s = 0 := by unfold Q.submitE; rw [if_neg h1, if_neg h2]
    have hss : S.submitS s = { S with packs := S.packs ++ [s] } := by unfold Q.submitS; rw [if_pos he]
    have d2 : decide (64 ≤ (S.len : Int)) = false := by simp; omega
    have HL := Lib.hid (len_any m S w h hok)
    have hpl : S.packs.length ≤ 64 := by have := hok.len64; omega
    obtain ⟨i9, hi9, hz9, hsz9, hby9⟩ := info_parts info9
    rw [he, hss]
    clear h he hss h1
    go_enter Try.func10, Try.ntmps10
    go_upto_region 7 with (first | (go_at_call 17; refine (may17 _ _).mono ?_; rintro e w' ⟨rfl, rfl⟩) | (go_at_call 14; refine HL.out.mono ?_; rintro e w1 ⟨rfl, o1, q1⟩))
    clear HL d2 hm
    have oa : Only [] w1 (w1.alloc (.cells #[.string s] 9)) := (Only.refl _ _).alloc _
    have hown := (q1.quiet oa).packs
    have c3 := q1.c3
    have HQ := Lib.hid q1
    clear q1
    go_upto_region 8 with ((at_builtin; refine wpList_append_sl _ rfl (.tmp 21) (.tmp 23) 43 rfl 9 i9 (.string ⟨#[]⟩) 1 16 Try.underlying43 hi9 hz9 hsz9 hby9 rfl m.ap _ m.cp _ rfl hown ⟨w1.heap.size, 0, none⟩ 1 1 [.string s] rfl rfl (cells_one_new _ _ _) (by simp; rfl) (by unfold maxLen; omega) (by omega) ?_; intro ao' cap' w2 hs2 hg2 hb2; (have o2 : Only (blk m.ap).toList w1 w2 := (oa.mono (by simp)).trans (Only.of_grown hg2 (fun j hj => blk_mem.2 hj))); (have HS := Lib.hid (HQ.out.setPacks (n := S.packs.length + 1) (ps := S.packs ++ [s]) (by simp) o2 (by rw [List.map_append]; exact hs2) (fun j hj => by
      rcases hb2 with e | e
      · exact .inl (e.symm.trans hj)
      · right; rw [e] at hj; simp at hj; omega))); (have hp2 := o2.at HQ.out.obj (fun hj => by have := HQ.out.sep; unfold Mem.foot at this; rw [List.nodup_cons] at this; exact this.1 (List.mem_cons_of_mem _ (List.mem_cons_of_mem _ (List.mem_append_left _ hj))))); (have fz := frozen_of hp2 3); (have g3 := cell_of hp2 3); (simp only [List.getElem?_toArray, List.getElem?_cons_succ, List.getElem?_cons_zero] at g3); (clear hs2 hg2 hb2 hown c3 hp2)))
    go_wp2_with fail
    go_ret
    exact ⟨rfl, _, HS.out.1, (Step.quiet o1).trans HS.out.2⟩
end Go.Proofs.Ytjcndeanojeffaa

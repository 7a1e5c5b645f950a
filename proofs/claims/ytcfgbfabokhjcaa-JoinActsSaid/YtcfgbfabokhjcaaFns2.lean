/- Contracts of chapter 19's New, Add, Drop, and of layer 8's Put, of which only the verdict is asked. -/
import Derived.Test.YtcfgbfabokhjcaaFns
namespace Go.Proofs.Ytcfgbfabokhjcaa
open Go.RowKit
open Plain

theorem new_ok (short : Bool) (most : Int) (h0 : 1 ≤ most) (h1 : most ≤ 128) : (J.new short most).Ok := by
  have hr := ring_is short
  refine ⟨rfl, by simp [J.new], ?_, h0, h1, by simp [J.new], by simp [J.new], by simp [J.new], by simp [J.new], by simp [J.new], by simp [J.new], by simp [J.new], by simp [J.new]⟩
  show 0 < ring short
  rcases hr with e | e <;> omega

set_option maxHeartbeats 800000 in
theorem new_good (short : Bool) (most : Int) (w : World) (h0 : 1 ≤ most) (h1 : most ≤ 128) :
    Calls Try.prog 12 #[.bool short, .int .i64 most] w fun e w' => ∃ p bl bh, e = .returned (.tuple #[.pointer (some ⟨p, 0, none⟩), .int .i64 0]) ∧ PJ w' p bl bh (J.new short most) ∧ Only [] w w' ∧ w.heap.size ≤ p ∧ w.heap.size ≤ bl ∧ w.heap.size ≤ bh := by
  have d0 : decide (most < 1) = false := by simp; omega
  have d1 : decide (128 < most) = false := by simp; omega
  have hmm := @run_makeMap Try.prog
  have hfin : ∀ w : World, ∃ p bl bh, (Ending.returned (.tuple #[.pointer (some ⟨w.heap.size + 1 + 1, 0, none⟩), .int .i64 0])) = .returned (.tuple #[.pointer (some ⟨p, 0, none⟩), .int .i64 0]) ∧ PJ (((w.alloc (.map #[] 0)).alloc (.map #[] 0)).alloc (.cells #[.int .i64 (ring short), .int .i64 0, .bool short, .int .i64 most, .map (some w.heap.size), .map (some (w.heap.size + 1)), .int .i64 0] 72)) p bl bh (J.new short most) ∧ Only [] w (((w.alloc (.map #[] 0)).alloc (.map #[] 0)).alloc (.cells #[.int .i64 (ring short), .int .i64 0, .bool short, .int .i64 most, .map (some w.heap.size), .map (some (w.heap.size + 1)), .int .i64 0] 72)) ∧ w.heap.size ≤ p ∧ w.heap.size ≤ bl ∧ w.heap.size ≤ bh := by
    intro w
    refine ⟨_, w.heap.size, w.heap.size + 1, rfl, ⟨?_, ?_, ?_, by omega, new_ok short most h0 h1⟩, (((Only.refl _ _).alloc _).alloc _).alloc _, by omega, by omega, by omega⟩
    · have := heap_alloc_new' ((w.alloc (.map #[] 0)).alloc (.map #[] 0)) (.cells #[.int .i64 (ring short), .int .i64 0, .bool short, .int .i64 most, .map (some w.heap.size), .map (some (w.heap.size + 1)), .int .i64 0] 72)
      simpa [J.new] using this
    · exact ((HasMap.made w).alloc _).alloc _
    · have := (HasMap.made (P := Try.prog) (k := 3) (mk := frV) (w.alloc (.map #[] 0))).alloc (.cells #[.int .i64 (ring short), .int .i64 0, .bool short, .int .i64 most, .map (some w.heap.size), .map (some (w.heap.size + 1)), .int .i64 0] 72)
      simpa [J.new, hm] using this
  have HF := Lib.hid hfin
  clear hfin
  go_enter Try.func12, Try.ntmps12
  go_wp2_with (go_at_call 30; refine (ring_any _ _).mono ?_; rintro e w' ⟨rfl, rfl⟩)
  go_ret2
  exact HF.out _

set_option maxHeartbeats 800000 in
theorem new_bad (short : Bool) (most : Int) (w : World) (h : most < 1 ∨ 128 < most) :
    Calls Try.prog 12 #[.bool short, .int .i64 most] w fun e w' => e = .returned (.tuple #[.pointer none, .int .i64 1900]) ∧ w = w' := by
  by_cases h0 : most < 1
  · have d0 : decide (most < 1) = true := by simpa using h0
    clear h
    go_enter Try.func12, Try.ntmps12
    go_wp2
    go_ret2
    exact ⟨rfl, rfl⟩
  · have d0 : decide (most < 1) = false := by simpa using h0
    have d1 : decide (128 < most) = true := by simp; omega
    clear h
    go_enter Try.func12, Try.ntmps12
    go_wp2
    go_ret2
    exact ⟨rfl, rfl⟩

theorem only_turned {w w' : World} {b : Nat} (h : w.mapTurned w' b) : Only [b] w w' := Only.of_grown h.grown fun k hk => by cases hk; simp
theorem has_look (S : J) (q : Int) : S.has q = (look S.links q).isSome := rfl

theorem addS_ok {S : J} (h : S.Ok) (link : Int) (hl : link ≤ 9223372036854775807) : (addS S link).Ok := by
  unfold addS
  split
  · rename_i he
    unfold addE at he
    split at he
    · cases he
    · rename_i h1
      split at he
      · cases he
      · rename_i h2
        have hn : look S.links link = none := by
          cases hh : look S.links link with
          | none => rfl
          | some x => exact absurd (show S.has link = true by rw [has_look, hh]; rfl) (fun e => h1 (.inr e))
        refine ⟨h.ring, h.next0, h.next1, h.most0, h.most1, h.nodup, h.frag, ?_, ?_, ?_, h.count, h.lost0, h.lost1⟩
        · have := putL_nodup h.lnodup link (-1)
          unfold putL at this
          rw [hn] at this
          exact this
        · intro p hp
          rcases List.mem_append.1 hp with hp | hp
          · exact h.link p hp
          · simp at hp
            subst hp
            have := h.r0
            refine ⟨by simp; omega, hl, by simp, by simp; omega⟩
        · simp; omega
  · exact h

set_option maxHeartbeats 800000 in
theorem add_any (p bl bh : Nat) (S : J) (link : Int) (w : World) (h : PJ w p bl bh S) (l0 : -9223372036854775808 ≤ link) (l1 : link ≤ 9223372036854775807) :
    Calls Try.prog 16 #[.pointer (some ⟨p, 0, none⟩), .int .i64 link] w fun e w' => e = .returned (.int .i64 (addE S link)) ∧ PJ w' p bl bh (addS S link) ∧ Only [bl] w w' := by
  have c4 := h.c4
  have k1 := h.linkAt link l0 l1
  have k2 := h.linksLen 3
  have hok := addS_ok h.ok link l1
  have hlen := h.ok.links8
  by_cases h1 : link < 0
  · have d1 : decide (link < 0) = true := by simpa using h1
    have he : addE S link = 1900 := by unfold addE; rw [if_pos (.inl h1)]
    have hs : addS S link = S := by unfold addS; rw [if_neg (by rw [he]; decide)]
    rw [he, hs]
    have H := Lib.hid h
    clear he hs hok h
    go_enter Try.func16, Try.ntmps16
    go_wp2
    go_ret
    exact ⟨rfl, H.out, Only.refl _ _⟩
  have d1 : decide (link < 0) = false := by simpa using h1
  by_cases h2 : S.has link = true
  · have he : addE S link = 1900 := by unfold addE; rw [if_pos (.inr h2)]
    have hs : addS S link = S := by unfold addS; rw [if_neg (by rw [he]; decide)]
    rw [he, hs]
    rw [h2] at k1
    have H := Lib.hid h
    clear he hs hok h h2
    go_enter Try.func16, Try.ntmps16
    go_wp2
    go_ret
    exact ⟨rfl, H.out, Only.refl _ _⟩
  have h2' : S.has link = false := by simpa using h2
  by_cases h3 : 8 ≤ S.links.length
  · have he : addE S link = 1901 := by unfold addE; rw [if_neg (by simp [h1, h2']), if_pos h3]
    have hs : addS S link = S := by unfold addS; rw [if_neg (by rw [he]; decide)]
    have d3 : decide (8 ≤ (S.links.length : Int)) = true := by simp; omega
    rw [he, hs]
    rw [h2'] at k1
    have H := Lib.hid h
    clear he hs hok h h2 h2'
    go_enter Try.func16, Try.ntmps16
    go_wp2
    go_ret
    exact ⟨rfl, H.out, Only.refl _ _⟩
  have he : addE S link = 0 := by unfold addE; rw [if_neg (by simp [h1, h2']), if_neg h3]
  have hs : addS S link = { S with links := S.links ++ [(link, -1)] } := by unfold addS; rw [if_pos he]
  have d3 : decide (8 ≤ (S.links.length : Int)) = false := by simp; omega
  rw [hs] at hok
  rw [he, hs]
  rw [h2'] at k1
  have hp : putL S.links link (-1) = S.links ++ [(link, -1)] := by
    unfold putL
    rw [← has_look, h2']
    rfl
  have hlk := h.links
  have hwf := wf_int l0 l1
  have hfin : ∀ w', HasMap Try.prog 3 (Value.int .i64) w' bl (putL S.links link (-1)) → w.mapTurned w' bl → PJ w' p bl bh { S with links := S.links ++ [(link, -1)] } ∧ Only [bl] w w' := fun w' a b => by
    have o := only_turned b
    exact ⟨⟨o.at h.obj (by simpa using h.p_bl), by rw [← hp]; exact a, h.held.same (o.block _ h.lt.2.2 (by simpa using h.ne.symm)), h.ne, hok⟩, o⟩
  have HF := Lib.hid hfin
  clear hfin he hs hok h h2 h2' hp
  go_enter Try.func16, Try.ntmps16
  go_wp2_with ((at_mapUpdate; refine wpList_storeL _ rfl _ _ _ 69 rfl 3 3 keyed Try.underlying3 Try.underlying69 (Value.int .i64) bl S.links rfl hlk (by unfold maxLen; omega) _ (-1) rfl rfl hwf ?_; intro w1 hm1 ht1))
  go_ret
  exact ⟨rfl, HF.out _ ‹_› ‹_›⟩

theorem filter_ok {S : J} (h : S.Ok) (l : List (Int × Int)) (hl : l.Sublist S.links) : J.Ok { S with links := l } :=
  ⟨h.ring, h.next0, h.next1, h.most0, h.most1, h.nodup, h.frag, h.lnodup.sublist (hl.map _), fun p hp => h.link p (hl.subset hp), Nat.le_trans hl.length_le h.links8, h.count, h.lost0, h.lost1⟩

set_option maxHeartbeats 800000 in
theorem drop_any (p bl bh : Nat) (S : J) (link : Int) (w : World) (h : PJ w p bl bh S) (l0 : -9223372036854775808 ≤ link) (l1 : link ≤ 9223372036854775807) :
    Calls Try.prog 18 #[.pointer (some ⟨p, 0, none⟩), .int .i64 link] w fun e w' => e = .returned (.int .i64 (dropE S link)) ∧ PJ w' p bl bh (dropS S link) ∧ Only [bl] w w' := by
  have c4 := h.c4
  have k1 := h.linkAt link l0 l1
  unfold dropE dropS
  by_cases h2 : S.has link = true
  · rw [if_pos h2, if_pos h2]
    rw [h2] at k1
    have hlk := h.links
    have hwf := wf_int l0 l1
    have hfin : ∀ w', HasMap Try.prog 3 (Value.int .i64) w' bl (strike S.links link) → w.mapTurned w' bl → PJ w' p bl bh { S with links := S.links.filter fun p => p.1 != link } ∧ Only [bl] w w' := fun w' a b => by
      have o := only_turned b
      exact ⟨⟨o.at h.obj (by simpa using h.p_bl), a, h.held.same (o.block _ h.lt.2.2 (by simpa using h.ne.symm)), h.ne, filter_ok h.ok _ List.filter_sublist⟩, o⟩
    have HF := Lib.hid hfin
    clear hfin h h2
    go_enter Try.func18, Try.ntmps18
    go_wp2_with ((at_delete; refine wpList_dropL _ rfl _ _ 69 3 rfl 3 keyed Try.underlying3 Try.underlying69 (Value.int .i64) bl S.links rfl hlk _ rfl hwf ?_; intro w1 hm1 ht1))
    go_ret
    exact ⟨rfl, HF.out _ ‹_› ‹_›⟩
  · rw [if_neg h2, if_neg h2]
    have h2' : S.has link = false := by simpa using h2
    rw [h2'] at k1
    have H := Lib.hid h
    clear h h2 h2'
    go_enter Try.func18, Try.ntmps18
    go_wp2
    go_ret
    exact ⟨rfl, H.out, Only.refl _ _⟩
end Go.Proofs.Ytcfgbfabokhjcaa

/- Chapter 19: the contract of the document's own Put. -/
import Derived.Test.YtcfgbfabokhjcaaRPut0
namespace Go.Proofs.Ytcfgbfabokhjcaa
open Go.RowKit
open Plain

def Kb (m : RM) (S : J) (B : Nat) (f : Fr) (w' : World) : Prop := RJ w' m S ∧ w'.heap[B]? = some (.cells #[.bool f.b, .bool f.e, .int .i64 f.q, .string f.d] 33 (0, 0))
theorem Kb.quiet {m : RM} {S : J} {B : Nat} {f : Fr} {w w' : World} (h : Kb m S B f w) (o : Only [] w w') : Kb m S B f w' := ⟨h.1.quiet o, o.at h.2 (by simp)⟩
theorem Kb.drew {m : RM} {S : J} {B : Nat} {f : Fr} {w : World} (h : Kb m S B f w) : Kb m S B f w.drew := h.quiet (Only.drew (Only.refl [] w))
theorem Kb.b0 {m : RM} {S : J} {B : Nat} {f : Fr} {w : World} (h : Kb m S B f w) : w.cell? ⟨B, 0, none⟩ = some (.bool f.b) := by have := cell_of h.2 0; simpa using this
theorem Kb.b1 {m : RM} {S : J} {B : Nat} {f : Fr} {w : World} (h : Kb m S B f w) : w.cell? ⟨B, 1, none⟩ = some (.bool f.e) := by have := cell_of h.2 1; simpa using this
theorem Kb.b2 {m : RM} {S : J} {B : Nat} {f : Fr} {w : World} (h : Kb m S B f w) : w.cell? ⟨B, 2, none⟩ = some (.int .i64 f.q) := by have := cell_of h.2 2; simpa using this
theorem Kb.b3 {m : RM} {S : J} {B : Nat} {f : Fr} {w : World} (h : Kb m S B f w) : w.cell? ⟨B, 3, none⟩ = some (.string f.d) := by have := cell_of h.2 3; simpa using this
theorem RLoop.appn {m : RM} {S1 : J} {w w1 w2 : World} {m' : RM} {T : J} {ao ao' : Option Addr} {cap cap' : Nat} {outs : List ByteArray} (h : RLoop m S1 w w1 m' T ao cap outs) (hap : Sl w2 9 1 ao' (outs.length + 0) cap' (outs.map Value.string ++ [])) (hg : w1.grownBy w2 (blk ao)) (hb : blk ao' = blk ao ∨ blk ao' = some w1.heap.size) : RLoop m S1 w w2 m' T ao' cap' outs := by
  have o2 : Only (blk ao).toList w1 w2 := Only.of_grown hg (fun j hj => by rw [hj]; simp)
  have hsz : w.heap.size ≤ w1.heap.size := h.st.only.size
  refine ⟨h.rj.only o2 (fun j hj2 hm => (h.bl j (by simpa using hm)).1 hj2), ⟨h.st.r, h.st.only.trans' o2 (fun x hx => .inr (h.bl x (by simpa using hx)).2), h.st.foot⟩, by simpa using hap, fun j hj3 => ?_, h.run, h.few⟩
  rcases hb with e | e
  · exact h.bl j (e.symm.trans hj3)
  · rw [e] at hj3
    simp at hj3
    subst hj3
    exact ⟨fun hm => by have := h.rj.lt hm; omega, hsz⟩

set_option maxRecDepth 100000 in
set_option maxHeartbeats 2000000 in
theorem rput_none (m : RM) (S : J) (link : Int) (f : Fr) (w : World) (h : RJ w m S) (hh : S.has link = false) :
    Calls Try.prog 21 #[.pointer (some ⟨m.r, 0, none⟩), .int .i64 link, .agg #[.bool f.b, .bool f.e, .int .i64 f.q, .string f.d]] w (RPutPost m S link f w) := by
  have he : putE S link f = 1902 := by unfold putE; rw [if_pos hh]
  have h1 := h.alloc (.cells #[.bool f.b, .bool f.e, .int .i64 f.q, .string f.d] 33)
  have HF := Lib.hid (RPutPost.bad he (by decide) h1 ((Only.refl [] w).alloc _))
  have hp := place_any m S link _ h1
  have e1 : S.place link = -1 := by
    rcases place_cases S link with ⟨a, _⟩ | ⟨_, _, _, _, c⟩
    · exact a
    · rw [hh] at c; cases c
  rw [e1] at hp
  clear h h1 he e1 hh
  obtain ⟨r, al, cl, ah, ch⟩ := m
  go_enter Try.func21, Try.ntmps21
  go_wp2_with (go_at_call 31; refine hp.mono ?_; rintro e w' ⟨rfl, rfl⟩)
  go_ret2
  exact HF.out

set_option maxRecDepth 100000 in
set_option maxHeartbeats 2000000 in
theorem rput_bad (m : RM) (S : J) (link : Int) (f : Fr) (w : World) (h : RJ w m S) (hh : S.has link = true) (hm : mayF S.short f = false) :
    Calls Try.prog 21 #[.pointer (some ⟨m.r, 0, none⟩), .int .i64 link, .agg #[.bool f.b, .bool f.e, .int .i64 f.q, .string f.d]] w (RPutPost m S link f w) := by
  have he : putE S link f = 1900 := by unfold putE; rw [if_neg (by rw [hh]; decide), if_pos hm]
  have K0 : Kb m S w.heap.size f (w.alloc (.cells #[.bool f.b, .bool f.e, .int .i64 f.q, .string f.d] 33)) := ⟨h.alloc _, heap_alloc_new' w _⟩
  have O1 : Only [] w (w.alloc (.cells #[.bool f.b, .bool f.e, .int .i64 f.q, .string f.d] 33)) := (Only.refl [] w).alloc _
  have HF := Lib.hid (fun w' (hw : RJ w' m S) (o : Only [] w w') => RPutPost.bad he (by decide) hw o)
  have hp := place_any m S link _ K0.1
  obtain ⟨k, hk, e1⟩ : ∃ k, ∃ hk : k < S.links.length, S.place link = k := by
    rcases place_cases S link with ⟨_, c⟩ | ⟨k, hk, e, _, _⟩
    · rw [hh] at c; cases c
    · exact ⟨k, hk, e⟩
  rw [e1] at hp
  have HM := Lib.hid hm
  clear h he e1 hh hm
  obtain ⟨r, al, cl, ah, ch⟩ := m
  go_enter Try.func21, Try.ntmps21
  go_upto_region 4 with (go_at_call 31; refine hp.mono ?_; rintro e w' ⟨rfl, rfl⟩)
  clear hp
  generalize w.alloc (.cells #[.bool f.b, .bool f.e, .int .i64 f.q, .string f.d] 33) = w1 at *
  generalize w.heap.size = B at *
  refine wp_region_mix (Kb ⟨r, al, cl, ah, ch⟩ S B f) [(1, true), (0, true), (2, false), (3, false), (4, false), (5, false), (6, false), (7, true), (8, true), (9, false), (10, false)] mixed (by kernel_rfl) (fun d v c a w h => by cases d <;> exact h) K0.drew ?_
  simp only [List.filterMap_cons, List.filterMap_nil, List.getElem?_cons_succ, List.getElem?_cons_zero, Option.map_some]
  have K1 := K0.drew
  have O2 := O1.drew
  clear K0 O1
  generalize w1.drew = w2 at *
  ((with_reducible refine mix_move ?_ ?_); (focus rfl))
  ((with_reducible refine mix_free ?_ (v := ?_) (fun w' h' => ?_) ?_); (focus rfl); rotate_left; (focus (have b0 := h'.b0; have b1 := h'.b1; have b2 := h'.b2; have b3 := h'.b3; go_simp <;> with_reducible rfl)))
  have c0 : w2.cell? ⟨r, 0, none⟩ = some (.bool S.short) := K1.1.c0
  iterate 3 ((with_reducible refine mix_op ?_ ?_); (focus rfl); intro K hK; go_step; refine hK _ _ K1 ?_; clear hK K)
  with_reducible refine mix_op ?_ ?_
  · rfl
  intro K hK
  go_step
  refine (Rmp.mp_any f S.short w2).mono ?_
  rintro e w3 ⟨s, rfl, ho⟩
  rw [if_neg (by rw [HM.out]; decide)]
  have K2 := K1.quiet ho
  have O3 := O2.trans ho
  refine hK _ _ K2 ?_
  clear hK K K1 ho c0 O2
  ((with_reducible refine mix_op ?_ ?_); (focus rfl); intro K hK; go_step; refine hK _ _ K2 ?_; clear hK K)
  iterate 2 ((with_reducible refine mix_free ?_ (v := ?_) (fun w' h' => ?_) ?_); (focus rfl); rotate_left; (focus (go_simp <;> with_reducible rfl)))
  iterate 2 ((with_reducible refine mix_op ?_ ?_); (focus rfl); intro K hK; go_step; refine hK _ _ K2 ?_; clear hK K)
  refine mix_nil ?_
  have HFin := Lib.hid (HF.out _ K2.1 O3)
  clear K2 O3
  go_wp2_with fail
  go_ret2
  exact HFin.out

set_option maxRecDepth 100000 in
set_option maxHeartbeats 16000000 in
theorem rput_good (m : RM) (S : J) (link : Int) (f : Fr) (w : World) (h : RJ w m S) (hh : S.has link = true) (hm : mayF S.short f = true) (hc : S.held.length ≤ 128) (hl : S.lost + S.held.length < 1099511627776) :
    Calls Try.prog 21 #[.pointer (some ⟨m.r, 0, none⟩), .int .i64 link, .agg #[.bool f.b, .bool f.e, .int .i64 f.q, .string f.d]] w (RPutPost m S link f w) := by
  obtain ⟨i9, hi9, hz9, hsz9, hby9⟩ := info_parts info9
  obtain ⟨i39, hi39, hz39, hsz39, hby39⟩ := info_parts Cutp.info39
  have he : putE S link f = 0 := by unfold putE; rw [if_neg (by rw [hh]; decide), if_neg (by rw [hm]; decide)]
  have K0 : Kb m S w.heap.size f (w.alloc (.cells #[.bool f.b, .bool f.e, .int .i64 f.q, .string f.d] 33)) := ⟨h.alloc _, heap_alloc_new' w _⟩
  have O1 : Only [] w (w.alloc (.cells #[.bool f.b, .bool f.e, .int .i64 f.q, .string f.d] 33)) := (Only.refl [] w).alloc _
  have HLt := Lib.hid (fun k (hk : k ∈ m.foot) => h.lt hk)
  have hp := place_any m S link _ K0.1
  obtain ⟨k, hk, e1, hq⟩ : ∃ k, ∃ hk : k < S.links.length, S.place link = k ∧ S.links[k].1 = link := by
    rcases place_cases S link with ⟨_, c⟩ | ⟨k, hk, e, e2, _⟩
    · rw [hh] at c; cases c
    · exact ⟨k, hk, e, e2⟩
  rw [e1] at hp
  have HQ := Lib.hid hq
  have HM := Lib.hid hm
  have hl8 := h.ok.links8
  have HN2 := Lib.hid (lay_ok h.ok link hm hc hl).count
  have HPut := Lib.hid (show putE S link f = 0 ∧ putO S link f = (S.lay link f).run.2 ∧ putS S link f = (S.lay link f).run.1 from ⟨he, by unfold putO; rw [if_pos he]; rfl, by unfold putS; rw [if_pos he]; rfl⟩)
  have HOk := Lib.hid h.ok
  have HHL := Lib.hid (And.intro hc hl)
  obtain ⟨q0, q1', _⟩ := may_spec hm
  have q1 : f.q < S.R := by rw [h.ok.ring]; exact q1'
  obtain ⟨r1, r2⟩ := h.ok.r0
  clear h he e1 hh hm hq q1'
  obtain ⟨r, al, cl, ah, ch⟩ := m
  go_enter Try.func21, Try.ntmps21
  go_upto_region 4 with (go_at_call 31; refine hp.mono ?_; rintro e w' ⟨rfl, rfl⟩)
  clear hp
  have HB := Lib.hid (show ∀ k ∈ RM.foot ⟨r, al, cl, ah, ch⟩, k ≠ w.heap.size from fun k hk e => by have := HLt.out k hk; omega)
  generalize hw1 : w.alloc (.cells #[.bool f.b, .bool f.e, .int .i64 f.q, .string f.d] 33) = w1 at *
  clear hw1
  generalize w.heap.size = B at *
  refine wp_region_mix (Kb ⟨r, al, cl, ah, ch⟩ S B f) [(1, true), (0, true), (2, false), (3, false), (4, false), (5, false), (6, false), (7, true), (8, true), (9, false), (10, false)] mixed (by kernel_rfl) (fun d v c a w h => by cases d <;> exact h) K0.drew ?_
  simp only [List.filterMap_cons, List.filterMap_nil, List.getElem?_cons_succ, List.getElem?_cons_zero, Option.map_some]
  have K1 := K0.drew
  have O2 := O1.drew
  clear K0 O1
  generalize w1.drew = w2 at *
  ((with_reducible refine mix_move ?_ ?_); (focus rfl))
  ((with_reducible refine mix_free ?_ (v := ?_) (fun w' h' => ?_) ?_); (focus rfl); rotate_left; (focus (have b0 := h'.b0; have b1 := h'.b1; have b2 := h'.b2; have b3 := h'.b3; go_simp <;> with_reducible rfl)))
  have c0 : w2.cell? ⟨r, 0, none⟩ = some (.bool S.short) := K1.1.c0
  iterate 3 ((with_reducible refine mix_op ?_ ?_); (focus rfl); intro K hK; go_step; refine hK _ _ K1 ?_; clear hK K)
  with_reducible refine mix_op ?_ ?_
  · rfl
  intro K hK
  go_step
  refine (Rmp.mp_any f S.short w2).mono ?_
  rintro e w3 ⟨s, rfl, ho⟩
  rw [if_pos HM.out]
  have K2 := K1.quiet ho
  have O3 := O2.trans ho
  refine hK _ _ K2 ?_
  clear hK K K1 ho c0 O2
  ((with_reducible refine mix_op ?_ ?_); (focus rfl); intro K hK; go_step; refine hK _ _ K2 ?_; clear hK K)
  iterate 2 ((with_reducible refine mix_free ?_ (v := ?_) (fun w' h' => ?_) ?_); (focus rfl); rotate_left; (focus (go_simp <;> with_reducible rfl)))
  iterate 2 ((with_reducible refine mix_op ?_ ?_); (focus rfl); intro K hK; go_step; refine hK _ _ K2 ?_; clear hK K)
  refine mix_nil ?_
  go_upto_region 7 with fail
  have K3 := K2.drew
  have O4 := O3.drew
  clear K2 O3
  obtain ⟨gb, go, hal⟩ := K3.1.links.some (by show 0 < S.links.length; omega)
  have hal' : al = some ⟨gb, go, none⟩ := hal
  subst hal'
  have c2 : w3.drew.cell? ⟨r, 2, none⟩ = some (.slice (some ⟨gb, go, none⟩) S.links.length cl) := K3.1.c2
  have b2 := K3.b2
  have f1 := K3.1.links.cells _ _ (flatL_get S.links k hk).2
  rw [← Nat.add_assoc] at f1
  have z1 := K3.1.links.frozen (go + k * 2 + 1)
  obtain ⟨h4, s4⟩ := K3.1.setLink hk HQ.out HM.out
  have hgB : gb ≠ B := HB.out gb (RM.in_al rfl)
  have hb4 : (w3.drew.setCell ⟨gb, go + k * 2 + 1, none⟩ (.int .i64 f.q)).heap[B]? = some (.cells #[.bool f.b, .bool f.e, .int .i64 f.q, .string f.d] 33 (0, 0)) := by rw [heap_setCell_ne hgB.symm]; exact K3.2
  have HS4 := Lib.hid ((RStep.quiet (m := ⟨r, some ⟨gb, go, none⟩, cl, ah, ch⟩) O4).trans s4)
  have hK4 : Kb ⟨r, some ⟨gb, go, none⟩, cl, ah, ch⟩ (S.upd link f) B f (w3.drew.setCell ⟨gb, go + k * 2 + 1, none⟩ (.int .i64 f.q)) := ⟨h4, hb4⟩
  have HK4 := Lib.hid hK4
  clear h4 s4 hb4 hK4 K3 O4 hgB
  refine wp_region_free 7 [] [7, 8, 9] mixed (by kernel_rfl) (fun d v c a w h => by cases d <;> exact h) ?_
  simp only [Region.heads, List.range, List.range.loop, List.filter_cons, List.filter_nil, List.contains_nil, Bool.not_false, if_true, List.nil_append, List.filterMap_cons, List.filterMap_nil, List.getElem?_cons_succ, List.getElem?_cons_zero]
  generalize w3.drew = w4 at *
  iterate 7 ((with_reducible refine wpStill_op ?_ ?_ ?_); (focus kernel_rfl); (focus kernel_rfl); intro K hK; go_step; refine hK _ ?_; clear hK K)
  refine wpStill_nil ?_
  go_upto_region 8 with fail
  have HS5 := HS4
  have K5 := HK4.out
  clear HK4 HS4 c2 b2 f1 z1
  generalize w4.setCell ⟨gb, go + k * 2 + 1, none⟩ (.int .i64 f.q) = w5 at *
  have HS6 := Lib.hid (HS5.out.trans (RStep.quiet (Only.drew (Only.refl [] _))))
  have K6 := K5.drew
  clear K5 HS5
  have hU := upd_ok HOk.out link HM.out
  obtain ⟨S2, hS2⟩ : ∃ S2, S2 = S.lay link f := ⟨_, rfl⟩
  rw [← hS2] at HPut HN2
  obtain ⟨o0, o1⟩ := off_bd (n := S.next) (q := f.q) HOk.out.isRing
  have hcase : (decide (S.R / 2 ≤ off S.R S.next f.q) = true ∧ S2 = { S.upd link f with lost := S.lost + 1 }) ∨ (decide (S.R / 2 ≤ off S.R S.next f.q) = false ∧ (∃ kk : Nat, (S.upd link f).at f.q = kk) ∧ S2 = { S.upd link f with lost := S.lost + 1 }) ∨ (decide (S.R / 2 ≤ off S.R S.next f.q) = false ∧ (S.upd link f).at f.q = -1 ∧ (S.upd link f).get f.q = none ∧ S2 = { S.upd link f with held := S.held ++ [f] }) := by
    rw [hS2, lay_eq]
    by_cases hb : S.R / 2 ≤ off S.R S.next f.q
    · left
      exact ⟨by simpa using hb, by rw [if_pos (.inr hb)]⟩
    · right
      rcases at_cases hU f.q with ⟨a1, a2⟩ | ⟨kk, _, a1, _, a2⟩
      · right
        exact ⟨by simpa using hb, a1, a2, by rw [if_neg (by rw [a2]; simp; omega)]⟩
      · left
        exact ⟨by simpa using hb, ⟨kk, a1⟩, by rw [if_pos (.inl (by rw [a2]; rfl))]⟩
  have HU := Lib.hid hU
  clear hU hS2
  rcases hcase with ⟨dn, e2⟩ | ⟨dn, ⟨kk, ea⟩, e2⟩ | ⟨dn, ea, eg, e2⟩
  · refine wp_region_reads mixed (by kernel_rfl) ?_
    generalize w5.drew = w6 at *
    have b2 := K6.b2
    have c0 : w6.cell? ⟨r, 0, none⟩ = some (.bool S.short) := K6.1.c0
    have hoff := roff_still _ _ f.q w6 K6.1 q0 q1
    have hr := ring37s K6.1.ok.ring w6
    have hoff' : Calls Try.prog 36 #[.pointer (some ⟨r, 0, none⟩), .int .i64 f.q] w6 fun e w' => e = .returned (.int .i64 (off S.R S.next f.q)) ∧ w' = w6 := hoff
    have hr' : Calls Try.prog 37 #[.bool S.short] w6 fun e w' => e = .returned (.int .i64 S.R) ∧ w' = w6 := hr
    have c5 : w6.cell? ⟨r, 5, none⟩ = some (.int .i64 S.lost) := K6.1.c5
    have z5 : w6.frozen? ⟨r, 5, none⟩ = false := K6.1.fz 5
    have hset := K6.1.setLost (S.lost + 1) (lost_ok HU.out HHL.out.2)
    have HL5 := Lib.hid (show RJ (w6.setCell ⟨r, 5, none⟩ (.int .i64 (S.lost + 1))) ⟨r, some ⟨gb, go, none⟩, cl, ah, ch⟩ S2 ∧ RStep w (w6.setCell ⟨r, 5, none⟩ (.int .i64 (S.lost + 1))) ⟨r, some ⟨gb, go, none⟩, cl, ah, ch⟩ ⟨r, some ⟨gb, go, none⟩, cl, ah, ch⟩ from ⟨e2 ▸ hset.1, HS6.out.trans hset.2⟩)
    have hls0 := HOk.out.lost0
    obtain ⟨_, hls1⟩ := HHL.out
    clear hoff hr hset HS6 e2
    generalize off S.R S.next f.q = oo at *
    have HO1 := Lib.hid hoff'
    have HR1 := Lib.hid hr'
    clear hoff' hr' K6
    iterate 3 ((with_reducible refine wpStill_op ?_ ?_ ?_); (focus kernel_rfl); (focus kernel_rfl); intro K hK; go_step; refine hK _ ?_; clear hK K)
    still_call HO1.out
    iterate 4 ((with_reducible refine wpStill_op ?_ ?_ ?_); (focus kernel_rfl); (focus kernel_rfl); intro K hK; go_step; refine hK _ ?_; clear hK K)
    still_call HR1.out
    iterate 3 ((with_reducible refine wpStill_op ?_ ?_ ?_); (focus kernel_rfl); (focus kernel_rfl); intro K hK; go_step; refine hK _ ?_; clear hK K)
    iterate 5 ((with_reducible refine wpStill_off ?_ ?_); (focus kernel_rfl))
    iterate 1 ((with_reducible refine wpStill_op ?_ ?_ ?_); (focus kernel_rfl); (focus kernel_rfl); intro K hK; go_step; refine hK _ ?_; clear hK K)
    refine wpStill_nil ?_
    clear b2 c0
    go_upto_region 11 with fail
    generalize w6.setCell ⟨r, 5, none⟩ (.int .i64 (S.lost + 1)) = w8 at *
    clear c5 z5
    go_wp2_with fail
    go_loopg [11] S2.mu (fun g x wr => ∃ (al' : Option Addr) (cl' : Nat) (ah' : Option Addr) (ch' : Nat) (T : J) (ao : Option Addr) (cap : Nat) (outs : List ByteArray), x = .slice ao outs.length cap ∧ RLoop ⟨r, some ⟨gb, go, none⟩, cl, ah, ch⟩ S2 w wr ⟨r, al', cl', ah', ch'⟩ T ao cap outs ∧ g = T.mu)
    case atStart => exact ⟨_, _, _, _, S2, none, 0, [], rfl, ⟨HL5.out.1, HL5.out.2, Sl.nil _ _ _, by simp [blk], by simp, by simp⟩, rfl⟩
    case round =>
      clear HL5
      obtain ⟨al', cl', ah', ch', T, ao, cap, outs, rfl, hR, hgk⟩ := hrel
      have HGK := Lib.hid hgk
      have HCall := Lib.hid (step_any _ T wr hR.rj)
      have hfew := hR.few
      have HRL := Lib.hid hR
      have HOkT := Lib.hid hR.rj.ok
      clear hR hgk
      go_wp2_with fail
      refine HCall.out.mono ?_
      clear HCall
      rintro e w1 (⟨hs, rfl, hj, o1⟩ | ⟨T', o, ⟨r', al2, cl2, ah2, ch2⟩, ao1, cap1, hs, rfl, hsl, hj, hst⟩)
      · have h1 := HRL.out.turn hj (RStep.quiet o1) rfl (Nat.le_refl _)
        have hout := h1.out
        have hnils : Src w1 1 none 0 ([] : List Value) := (Sl.nil w1 9 1).src (fun u hu => by cases hu)
        have H1 := Lib.hid h1
        have hcnt2 : S2.held.length ≤ 129 := HN2.out
        have HSt := Lib.hid hs
        clear hs hj o1 h1 HRL
        go_upto_region 14 with (at_builtin; refine wpList_append_src _ rfl (.tmp 80) (.tmp 81) 38 rfl 9 i9 (.string ⟨#[]⟩) 1 16 Try.underlying38 hi9 hz9 hsz9 hby9 rfl _ _ _ _ rfl hout _ _ _ _ rfl hnils (by unfold maxLen; omega) (by omega) ?_; intro ao2 cap2 w2 hs2 hg2 hb2)
        have h2 := H1.out.appn hs2 hg2 hb2
        clear hs2 hg2 hb2 H1 hout hnils
        have HA2 := Lib.hid h2
        have hd := h2.rj.drew
        have c3 : w2.drew.cell? ⟨r, 3, none⟩ = some (.slice ah' T.held.length ch') := hd.c3
        have c1 : w2.drew.cell? ⟨r, 1, none⟩ = some (.int .i64 T.most) := hd.c1
        have hcnt := HOkT.out.count
        have hmo0 := HOkT.out.most0
        have hmo1 := HOkT.out.most1
        clear h2 hd
        by_cases hle : (T.held.length : Int) ≤ T.most
        · have dle : decide ((T.held.length : Int) ≤ T.most) = true := by simpa using hle
          have hrun := HA2.out.run
          rw [run_wait HSt.out hle] at hrun
          have HF := Lib.hid (show RPutPost ⟨r, some ⟨gb, go, none⟩, cl, ah, ch⟩ S link f w (.returned (.tuple #[.slice ao2 outs.length cap2, .int .i64 0])) w2.drew from by
            have e1 := HPut.out.1
            have e2 := HPut.out.2.1
            have e3 := HPut.out.2.2
            unfold RPutPost
            rw [e1, e2, e3, hrun]
            simp only [List.append_nil]
            exact ⟨_, _, _, rfl, HA2.out.out.only (Only.drew (Only.refl [] w2)) (by simp), HA2.out.rj.drew, HA2.out.st.trans (RStep.quiet (Only.drew (Only.refl [] w2)))⟩)
          clear hrun HA2
          go_upto_region 15 with fail
          refine wp_region_reads mixed (by kernel_rfl) ?_
          iterate 10 ((with_reducible refine wpStill_op ?_ ?_ ?_); (focus kernel_rfl); (focus kernel_rfl); intro K hK; go_step; refine hK _ ?_; clear hK K)
          refine wpStill_nil ?_
          clear c3 c1
          go_wp2_with fail
          go_ret2
          exact HF.out
        · have dle : decide ((T.held.length : Int) ≤ T.most) = false := by simpa using hle
          go_upto_region 15 with fail
          refine wp_region_reads mixed (by kernel_rfl) ?_
          iterate 10 ((with_reducible refine wpStill_op ?_ ?_ ?_); (focus kernel_rfl); (focus kernel_rfl); intro K hK; go_step; refine hK _ ?_; clear hK K)
          refine wpStill_nil ?_
          clear c3 c1
          have hq2 := HA2.out.turn HA2.out.rj.drew (RStep.quiet (Only.drew (Only.refl [] w2))) rfl (Nat.le_refl _)
          clear HA2
          generalize w2.drew = w3 at *
          have hfi := rfirst_any _ T w3 hq2.rj (by omega)
          have HQ2 := Lib.hid hq2
          clear hq2
          go_wp2_with fail
          refine hfi.mono ?_
          rintro e w4 ⟨k, hk, rfl, hoff, o4⟩
          have hq4 := HQ2.out.turn (HQ2.out.rj.quiet o4) (RStep.quiet o4) rfl (Nat.le_refl _)
          clear HQ2 o4 hfi
          have hq5 := hq4.turn hq4.rj.drew (RStep.quiet (Only.drew (Only.refl [] w4))) rfl (Nat.le_refl _)
          clear hq4
          have hfr := HOkT.out.frag _ (List.getElem_mem hk)
          have c0 : w4.drew.cell? ⟨r, 0, none⟩ = some (.bool T.short) := hq5.rj.c0
          have c3 : w4.drew.cell? ⟨r, 3, none⟩ = some (.slice ah' T.held.length ch') := hq5.rj.c3
          obtain ⟨gb, go, hah⟩ := hq5.rj.held.some (by omega)
          have hah' : ah' = some ⟨gb, go, none⟩ := hah
          subst hah'
          have f2 := hq5.rj.held.cells _ _ (Cutp.flatF_get T.held k hk).2.2.1
          simp only [← Nat.add_assoc] at f2
          have hr := ring37s HOkT.out.ring w4.drew
          obtain ⟨r1, r2⟩ := HOkT.out.r0
          have hlp := least_pos HOkT.out hfr.1 hfr.2.1 hoff
          have HLG := Lib.hid (letGo_least HOkT.out hk hoff)
          have c4 : w4.drew.cell? ⟨r, 4, none⟩ = some (.int .i64 T.next) := hq5.rj.c4
          have z4 : w4.drew.frozen? ⟨r, 4, none⟩ = false := hq5.rj.fz 4
          have hnx := hq5.rj.setNext ((T.held[k].q + 1) % T.R) (Int.emod_nonneg _ (by omega)) (Int.emod_lt_of_pos _ (by omega))
          have HNx := Lib.hid hnx
          have HQ5 := Lib.hid hq5
          have HLp := Lib.hid hlp
          obtain ⟨x0, x1, _⟩ := hfr
          have nR : ¬ T.R = 0 := by omega
          clear hoff hnx hq5 hlp
          generalize hqk : T.held[k].q = qk at *
          have hln := HOkT.out.lost0
          have hl1 := HOkT.out.lost1
          go_upto_region 18 with fail
          refine wp_region_free 16 [] [16, 17, 18] mixed (by kernel_rfl) (fun d v c a w h => by cases d <;> exact h) ?_
          simp only [Region.heads, List.range, List.range.loop, List.filter_cons, List.filter_nil, List.contains_nil, Bool.not_false, if_true, List.nil_append, List.filterMap_cons, List.filterMap_nil, List.getElem?_cons_succ, List.getElem?_cons_zero]
          iterate 14 ((with_reducible refine wpStill_op ?_ ?_ ?_); (focus kernel_rfl); (focus kernel_rfl); intro K hK; go_step; refine hK _ ?_; clear hK K)
          still_call hr
          iterate 1 ((with_reducible refine wpStill_op ?_ ?_ ?_); (focus kernel_rfl); (focus kernel_rfl); intro K hK; go_step; refine hK _ ?_; clear hK K)
          refine wpStill_nil ?_
          clear c0 c3 f2 hr
          generalize w4.drew = w5 at *
          go_upto_region 19 with fail
          generalize w5.setCell ⟨r, 4, none⟩ (.int .i64 ((qk + 1) % T.R)) = w6 at *
          clear c4 z4
          have HLet := Lib.hid (rlet_any _ _ k w6 HNx.out.1 hk)
          go_wp2_with fail
          refine HLet.out.mono ?_
          clear HLet
          rintro e w7 ⟨⟨r', al2, cl2, ah2, ch2⟩, rfl, h7, s7⟩
          have er : r' = r := s7.r
          subst er
          have c5 : w7.cell? ⟨r', 5, none⟩ = some (.int .i64 T.lost) := h7.c5
          have z5 : w7.frozen? ⟨r', 5, none⟩ = false := h7.fz 5
          obtain ⟨h8, s8⟩ := h7.setLost (T.lost + 1) (out_lost HNx.out.1.ok hk)
          have hover := over_down HOkT.out (by omega)
          have hro := run_over HOkT.out HSt.out (by omega)
          rw [HLG.out] at hover hro
          rw [HLp.out] at h8
          have hend := HQ5.out.turn h8 ((HNx.out.2.trans s7).trans s8) hro (Nat.le_of_lt hover.2.2)
          have HEnd := Lib.hid hend
          have HMu := Lib.hid hover.2.1
          clear hend hover hro h7 s7 h8 s8 HQ5 HNx
          go_wp2_with fail
          go_roundg (J.mu { T with held := outL T.held k, lost := T.lost + 1, next := pos T.R T.next (T.least + 1) })
          case measure => rw [HGK.out]; exact HMu.out
          case rel => exact ⟨_, _, _, _, _, _, _, outs, rfl, HEnd.out, rfl⟩
      · have er : r' = r := hst.r
        subst er
        have hout := HRL.out.out.only hst.only (fun j hj => (HRL.out.bl j hj).1)
        have hol : o.toList.length ≤ 1 := by cases o <;> simp
        have hcnt : S2.held.length ≤ 129 := HN2.out
        have HTd := Lib.hid (fun ao' cap' w2 a b c => HRL.out.told (ao' := ao') (cap' := cap') (w2 := w2) hs hj hst a b c)
        clear hs hj hst
        go_wp2_with (at_builtin; refine wpList_append_src _ rfl (.tmp 80) (.tmp 81) 38 rfl 9 i9 (.string ⟨#[]⟩) 1 16 Try.underlying38 hi9 hz9 hsz9 hby9 rfl _ _ _ _ rfl hout _ _ _ _ rfl (str_src hsl) (by unfold maxLen; omega) (by omega) ?_; intro ao2 cap2 w2 hs2 hg2 hb2; (have e9 := Lib.hid (HTd.out ao2 cap2 w2 hs2 hg2 hb2)); clear hs2 hg2 hb2)
        go_roundg T'.mu
        case measure => rw [HGK.out]; exact e9.out.2
        case rel => exact ⟨_, _, _, _, T', ao2, cap2, outs ++ o.toList, by rw [List.length_append], e9.out.1, rfl⟩
  · refine wp_region_reads mixed (by kernel_rfl) ?_
    generalize w5.drew = w6 at *
    have b2 := K6.b2
    have c0 : w6.cell? ⟨r, 0, none⟩ = some (.bool S.short) := K6.1.c0
    have hoff := roff_still _ _ f.q w6 K6.1 q0 q1
    have hr := ring37s K6.1.ok.ring w6
    have hat := at_still _ _ f.q w6 K6.1
    rw [ea] at hat
    have hoff' : Calls Try.prog 36 #[.pointer (some ⟨r, 0, none⟩), .int .i64 f.q] w6 fun e w' => e = .returned (.int .i64 (off S.R S.next f.q)) ∧ w' = w6 := hoff
    have hr' : Calls Try.prog 37 #[.bool S.short] w6 fun e w' => e = .returned (.int .i64 S.R) ∧ w' = w6 := hr
    have hat' : Calls Try.prog 38 #[.pointer (some ⟨r, 0, none⟩), .int .i64 f.q] w6 fun e w' => e = .returned (.int .i64 kk) ∧ w' = w6 := hat
    have c5 : w6.cell? ⟨r, 5, none⟩ = some (.int .i64 S.lost) := K6.1.c5
    have z5 : w6.frozen? ⟨r, 5, none⟩ = false := K6.1.fz 5
    have hset := K6.1.setLost (S.lost + 1) (lost_ok HU.out HHL.out.2)
    have HL5 := Lib.hid (show RJ (w6.setCell ⟨r, 5, none⟩ (.int .i64 (S.lost + 1))) ⟨r, some ⟨gb, go, none⟩, cl, ah, ch⟩ S2 ∧ RStep w (w6.setCell ⟨r, 5, none⟩ (.int .i64 (S.lost + 1))) ⟨r, some ⟨gb, go, none⟩, cl, ah, ch⟩ ⟨r, some ⟨gb, go, none⟩, cl, ah, ch⟩ from ⟨e2 ▸ hset.1, HS6.out.trans hset.2⟩)
    have hls0 := HOk.out.lost0
    obtain ⟨_, hls1⟩ := HHL.out
    clear hoff hr hat hset HS6 e2 ea
    generalize off S.R S.next f.q = oo at *
    have HO1 := Lib.hid hoff'
    have HR1 := Lib.hid hr'
    have HA1 := Lib.hid hat'
    clear hoff' hr' hat' K6
    iterate 3 ((with_reducible refine wpStill_op ?_ ?_ ?_); (focus kernel_rfl); (focus kernel_rfl); intro K hK; go_step; refine hK _ ?_; clear hK K)
    still_call HO1.out
    iterate 4 ((with_reducible refine wpStill_op ?_ ?_ ?_); (focus kernel_rfl); (focus kernel_rfl); intro K hK; go_step; refine hK _ ?_; clear hK K)
    still_call HR1.out
    iterate 6 ((with_reducible refine wpStill_op ?_ ?_ ?_); (focus kernel_rfl); (focus kernel_rfl); intro K hK; go_step; refine hK _ ?_; clear hK K)
    still_call HA1.out
    iterate 2 ((with_reducible refine wpStill_op ?_ ?_ ?_); (focus kernel_rfl); (focus kernel_rfl); intro K hK; go_step; refine hK _ ?_; clear hK K)
    refine wpStill_nil ?_
    clear b2 c0
    go_upto_region 11 with fail
    generalize w6.setCell ⟨r, 5, none⟩ (.int .i64 (S.lost + 1)) = w8 at *
    clear c5 z5
    go_wp2_with fail
    go_loopg [11] S2.mu (fun g x wr => ∃ (al' : Option Addr) (cl' : Nat) (ah' : Option Addr) (ch' : Nat) (T : J) (ao : Option Addr) (cap : Nat) (outs : List ByteArray), x = .slice ao outs.length cap ∧ RLoop ⟨r, some ⟨gb, go, none⟩, cl, ah, ch⟩ S2 w wr ⟨r, al', cl', ah', ch'⟩ T ao cap outs ∧ g = T.mu)
    case atStart => exact ⟨_, _, _, _, S2, none, 0, [], rfl, ⟨HL5.out.1, HL5.out.2, Sl.nil _ _ _, by simp [blk], by simp, by simp⟩, rfl⟩
    case round =>
      clear HL5
      obtain ⟨al', cl', ah', ch', T, ao, cap, outs, rfl, hR, hgk⟩ := hrel
      have HGK := Lib.hid hgk
      have HCall := Lib.hid (step_any _ T wr hR.rj)
      have hfew := hR.few
      have HRL := Lib.hid hR
      have HOkT := Lib.hid hR.rj.ok
      clear hR hgk
      go_wp2_with fail
      refine HCall.out.mono ?_
      clear HCall
      rintro e w1 (⟨hs, rfl, hj, o1⟩ | ⟨T', o, ⟨r', al2, cl2, ah2, ch2⟩, ao1, cap1, hs, rfl, hsl, hj, hst⟩)
      · have h1 := HRL.out.turn hj (RStep.quiet o1) rfl (Nat.le_refl _)
        have hout := h1.out
        have hnils : Src w1 1 none 0 ([] : List Value) := (Sl.nil w1 9 1).src (fun u hu => by cases hu)
        have H1 := Lib.hid h1
        have hcnt2 : S2.held.length ≤ 129 := HN2.out
        have HSt := Lib.hid hs
        clear hs hj o1 h1 HRL
        go_upto_region 14 with (at_builtin; refine wpList_append_src _ rfl (.tmp 80) (.tmp 81) 38 rfl 9 i9 (.string ⟨#[]⟩) 1 16 Try.underlying38 hi9 hz9 hsz9 hby9 rfl _ _ _ _ rfl hout _ _ _ _ rfl hnils (by unfold maxLen; omega) (by omega) ?_; intro ao2 cap2 w2 hs2 hg2 hb2)
        have h2 := H1.out.appn hs2 hg2 hb2
        clear hs2 hg2 hb2 H1 hout hnils
        have HA2 := Lib.hid h2
        have hd := h2.rj.drew
        have c3 : w2.drew.cell? ⟨r, 3, none⟩ = some (.slice ah' T.held.length ch') := hd.c3
        have c1 : w2.drew.cell? ⟨r, 1, none⟩ = some (.int .i64 T.most) := hd.c1
        have hcnt := HOkT.out.count
        have hmo0 := HOkT.out.most0
        have hmo1 := HOkT.out.most1
        clear h2 hd
        by_cases hle : (T.held.length : Int) ≤ T.most
        · have dle : decide ((T.held.length : Int) ≤ T.most) = true := by simpa using hle
          have hrun := HA2.out.run
          rw [run_wait HSt.out hle] at hrun
          have HF := Lib.hid (show RPutPost ⟨r, some ⟨gb, go, none⟩, cl, ah, ch⟩ S link f w (.returned (.tuple #[.slice ao2 outs.length cap2, .int .i64 0])) w2.drew from by
            have e1 := HPut.out.1
            have e2 := HPut.out.2.1
            have e3 := HPut.out.2.2
            unfold RPutPost
            rw [e1, e2, e3, hrun]
            simp only [List.append_nil]
            exact ⟨_, _, _, rfl, HA2.out.out.only (Only.drew (Only.refl [] w2)) (by simp), HA2.out.rj.drew, HA2.out.st.trans (RStep.quiet (Only.drew (Only.refl [] w2)))⟩)
          clear hrun HA2
          go_upto_region 15 with fail
          refine wp_region_reads mixed (by kernel_rfl) ?_
          iterate 10 ((with_reducible refine wpStill_op ?_ ?_ ?_); (focus kernel_rfl); (focus kernel_rfl); intro K hK; go_step; refine hK _ ?_; clear hK K)
          refine wpStill_nil ?_
          clear c3 c1
          go_wp2_with fail
          go_ret2
          exact HF.out
        · have dle : decide ((T.held.length : Int) ≤ T.most) = false := by simpa using hle
          go_upto_region 15 with fail
          refine wp_region_reads mixed (by kernel_rfl) ?_
          iterate 10 ((with_reducible refine wpStill_op ?_ ?_ ?_); (focus kernel_rfl); (focus kernel_rfl); intro K hK; go_step; refine hK _ ?_; clear hK K)
          refine wpStill_nil ?_
          clear c3 c1
          have hq2 := HA2.out.turn HA2.out.rj.drew (RStep.quiet (Only.drew (Only.refl [] w2))) rfl (Nat.le_refl _)
          clear HA2
          generalize w2.drew = w3 at *
          have hfi := rfirst_any _ T w3 hq2.rj (by omega)
          have HQ2 := Lib.hid hq2
          clear hq2
          go_wp2_with fail
          refine hfi.mono ?_
          rintro e w4 ⟨k, hk, rfl, hoff, o4⟩
          have hq4 := HQ2.out.turn (HQ2.out.rj.quiet o4) (RStep.quiet o4) rfl (Nat.le_refl _)
          clear HQ2 o4 hfi
          have hq5 := hq4.turn hq4.rj.drew (RStep.quiet (Only.drew (Only.refl [] w4))) rfl (Nat.le_refl _)
          clear hq4
          have hfr := HOkT.out.frag _ (List.getElem_mem hk)
          have c0 : w4.drew.cell? ⟨r, 0, none⟩ = some (.bool T.short) := hq5.rj.c0
          have c3 : w4.drew.cell? ⟨r, 3, none⟩ = some (.slice ah' T.held.length ch') := hq5.rj.c3
          obtain ⟨gb, go, hah⟩ := hq5.rj.held.some (by omega)
          have hah' : ah' = some ⟨gb, go, none⟩ := hah
          subst hah'
          have f2 := hq5.rj.held.cells _ _ (Cutp.flatF_get T.held k hk).2.2.1
          simp only [← Nat.add_assoc] at f2
          have hr := ring37s HOkT.out.ring w4.drew
          obtain ⟨r1, r2⟩ := HOkT.out.r0
          have hlp := least_pos HOkT.out hfr.1 hfr.2.1 hoff
          have HLG := Lib.hid (letGo_least HOkT.out hk hoff)
          have c4 : w4.drew.cell? ⟨r, 4, none⟩ = some (.int .i64 T.next) := hq5.rj.c4
          have z4 : w4.drew.frozen? ⟨r, 4, none⟩ = false := hq5.rj.fz 4
          have hnx := hq5.rj.setNext ((T.held[k].q + 1) % T.R) (Int.emod_nonneg _ (by omega)) (Int.emod_lt_of_pos _ (by omega))
          have HNx := Lib.hid hnx
          have HQ5 := Lib.hid hq5
          have HLp := Lib.hid hlp
          obtain ⟨x0, x1, _⟩ := hfr
          have nR : ¬ T.R = 0 := by omega
          clear hoff hnx hq5 hlp
          generalize hqk : T.held[k].q = qk at *
          have hln := HOkT.out.lost0
          have hl1 := HOkT.out.lost1
          go_upto_region 18 with fail
          refine wp_region_free 16 [] [16, 17, 18] mixed (by kernel_rfl) (fun d v c a w h => by cases d <;> exact h) ?_
          simp only [Region.heads, List.range, List.range.loop, List.filter_cons, List.filter_nil, List.contains_nil, Bool.not_false, if_true, List.nil_append, List.filterMap_cons, List.filterMap_nil, List.getElem?_cons_succ, List.getElem?_cons_zero]
          iterate 14 ((with_reducible refine wpStill_op ?_ ?_ ?_); (focus kernel_rfl); (focus kernel_rfl); intro K hK; go_step; refine hK _ ?_; clear hK K)
          still_call hr
          iterate 1 ((with_reducible refine wpStill_op ?_ ?_ ?_); (focus kernel_rfl); (focus kernel_rfl); intro K hK; go_step; refine hK _ ?_; clear hK K)
          refine wpStill_nil ?_
          clear c0 c3 f2 hr
          generalize w4.drew = w5 at *
          go_upto_region 19 with fail
          generalize w5.setCell ⟨r, 4, none⟩ (.int .i64 ((qk + 1) % T.R)) = w6 at *
          clear c4 z4
          have HLet := Lib.hid (rlet_any _ _ k w6 HNx.out.1 hk)
          go_wp2_with fail
          refine HLet.out.mono ?_
          clear HLet
          rintro e w7 ⟨⟨r', al2, cl2, ah2, ch2⟩, rfl, h7, s7⟩
          have er : r' = r := s7.r
          subst er
          have c5 : w7.cell? ⟨r', 5, none⟩ = some (.int .i64 T.lost) := h7.c5
          have z5 : w7.frozen? ⟨r', 5, none⟩ = false := h7.fz 5
          obtain ⟨h8, s8⟩ := h7.setLost (T.lost + 1) (out_lost HNx.out.1.ok hk)
          have hover := over_down HOkT.out (by omega)
          have hro := run_over HOkT.out HSt.out (by omega)
          rw [HLG.out] at hover hro
          rw [HLp.out] at h8
          have hend := HQ5.out.turn h8 ((HNx.out.2.trans s7).trans s8) hro (Nat.le_of_lt hover.2.2)
          have HEnd := Lib.hid hend
          have HMu := Lib.hid hover.2.1
          clear hend hover hro h7 s7 h8 s8 HQ5 HNx
          go_wp2_with fail
          go_roundg (J.mu { T with held := outL T.held k, lost := T.lost + 1, next := pos T.R T.next (T.least + 1) })
          case measure => rw [HGK.out]; exact HMu.out
          case rel => exact ⟨_, _, _, _, _, _, _, outs, rfl, HEnd.out, rfl⟩
      · have er : r' = r := hst.r
        subst er
        have hout := HRL.out.out.only hst.only (fun j hj => (HRL.out.bl j hj).1)
        have hol : o.toList.length ≤ 1 := by cases o <;> simp
        have hcnt : S2.held.length ≤ 129 := HN2.out
        have HTd := Lib.hid (fun ao' cap' w2 a b c => HRL.out.told (ao' := ao') (cap' := cap') (w2 := w2) hs hj hst a b c)
        clear hs hj hst
        go_wp2_with (at_builtin; refine wpList_append_src _ rfl (.tmp 80) (.tmp 81) 38 rfl 9 i9 (.string ⟨#[]⟩) 1 16 Try.underlying38 hi9 hz9 hsz9 hby9 rfl _ _ _ _ rfl hout _ _ _ _ rfl (str_src hsl) (by unfold maxLen; omega) (by omega) ?_; intro ao2 cap2 w2 hs2 hg2 hb2; (have e9 := Lib.hid (HTd.out ao2 cap2 w2 hs2 hg2 hb2)); clear hs2 hg2 hb2)
        go_roundg T'.mu
        case measure => rw [HGK.out]; exact e9.out.2
        case rel => exact ⟨_, _, _, _, T', ao2, cap2, outs ++ o.toList, by rw [List.length_append], e9.out.1, rfl⟩
  · refine wp_region_reads mixed (by kernel_rfl) ?_
    generalize w5.drew = w6 at *
    have b2 := K6.b2
    have c0 : w6.cell? ⟨r, 0, none⟩ = some (.bool S.short) := K6.1.c0
    have hoff := roff_still _ _ f.q w6 K6.1 q0 q1
    have hr := ring37s K6.1.ok.ring w6
    have hat := at_still _ _ f.q w6 K6.1
    rw [ea] at hat
    have hoff' : Calls Try.prog 36 #[.pointer (some ⟨r, 0, none⟩), .int .i64 f.q] w6 fun e w' => e = .returned (.int .i64 (off S.R S.next f.q)) ∧ w' = w6 := hoff
    have hr' : Calls Try.prog 37 #[.bool S.short] w6 fun e w' => e = .returned (.int .i64 S.R) ∧ w' = w6 := hr
    have hat' : Calls Try.prog 38 #[.pointer (some ⟨r, 0, none⟩), .int .i64 f.q] w6 fun e w' => e = .returned (.int .i64 (-1)) ∧ w' = w6 := hat
    have HHo := Lib.hid (hold_ok HU.out (f := f) HM.out eg HHL.out.1 HHL.out.2)
    have hcl := HHL.out.1
    have HE2 := Lib.hid e2
    clear hoff hr hat e2 ea eg
    generalize off S.R S.next f.q = oo at *
    have HO1 := Lib.hid hoff'
    have HR1 := Lib.hid hr'
    have HA1 := Lib.hid hat'
    have HK6 := Lib.hid K6
    clear hoff' hr' hat' K6
    iterate 3 ((with_reducible refine wpStill_op ?_ ?_ ?_); (focus kernel_rfl); (focus kernel_rfl); intro K hK; go_step; refine hK _ ?_; clear hK K)
    still_call HO1.out
    iterate 4 ((with_reducible refine wpStill_op ?_ ?_ ?_); (focus kernel_rfl); (focus kernel_rfl); intro K hK; go_step; refine hK _ ?_; clear hK K)
    still_call HR1.out
    iterate 6 ((with_reducible refine wpStill_op ?_ ?_ ?_); (focus kernel_rfl); (focus kernel_rfl); intro K hK; go_step; refine hK _ ?_; clear hK K)
    still_call HA1.out
    iterate 2 ((with_reducible refine wpStill_op ?_ ?_ ?_); (focus kernel_rfl); (focus kernel_rfl); intro K hK; go_step; refine hK _ ?_; clear hK K)
    refine wpStill_nil ?_
    clear b2 c0 HO1 HR1 HA1
    go_upto_region 10 with fail
    have K7 := HK6.out.drew
    have HS7 := Lib.hid (HS6.out.trans (RStep.quiet (Only.drew (Only.refl [] _))))
    clear HK6 HS6
    have c3 : w6.drew.cell? ⟨r, 3, none⟩ = some (.slice ah S.held.length ch) := K7.1.c3
    refine wp_region_last (fun w' => w'.cell? ⟨r, 3, none⟩ = some (.slice ah S.held.length ch)) [(0, true), (1, true), (2, true), (3, true), (4, true), (5, false), (6, false), (7, false), (8, false), (9, false)] 10 _ mixed (by kernel_rfl) rfl rfl (fun d v c a w h => by cases d <;> exact h) c3 ?_
    simp only [List.filterMap_cons, List.filterMap_nil, List.getElem?_cons_succ, List.getElem?_cons_zero, Option.map_some]
    generalize w6.drew = w7 at *
    iterate 2 ((with_reducible refine mixR_move ?_ ?_); (focus rfl))
    iterate 3 ((with_reducible refine mixR_free ?_ (v := ?_) (fun w' h' => ?_) ?_); (focus rfl); rotate_left; (focus (go_simp <;> with_reducible rfl)))
    have b0 := K7.b0
    have b1 := K7.b1
    have b2 := K7.b2
    have b3 := K7.b3
    ((with_reducible refine mixR_op ?_ ?_); (focus rfl); intro K hK; go_step; refine hK _ _ c3 ?_; clear hK K)
    have oa : Only [] w7 (w7.alloc (.cells #[.bool f.b, .bool f.e, .int .i64 f.q, .string f.d] 33)) := (Only.refl _ _).alloc _
    have hr7 : r < w7.heap.size := lt_of_block K7.1.obj
    have c3a : (w7.alloc (.cells #[.bool f.b, .bool f.e, .int .i64 f.q, .string f.d] 33)).cell? ⟨r, 3, none⟩ = some (.slice ah S.held.length ch) := (World.cell?_of_block (oa.block r hr7 (by simp))).trans c3
    ((with_reducible refine mixR_op ?_ ?_); (focus rfl); intro K hK; go_step; refine hK _ _ c3a ?_; clear hK K)
    with_reducible refine mixR_op ?_ ?_
    · rfl
    intro K hK
    refine wpO_append_sl _ (.tmp 69) (.tmp 71) 46 rfl 33 i39 _ 4 32 Try.underlying46 hi39 hz39 hsz39 hby39 rfl ah S.held.length ch _ rfl (K7.1.held.only oa (by simp)) ⟨_, 0, none⟩ 1 1 [.bool f.b, .bool f.e, .int .i64 f.q, .string f.d] rfl rfl (cells_new _ _ _) (Cutp.four_cells _ _ _ _) (by unfold maxLen; omega) (by omega) ?_
    intro ao' cap' w9 hs9 hg9 hb9
    have O9 : Only (blk ah).toList w7 w9 := (oa.mono (by simp)).trans (Only.of_grown hg9 (fun i hi => by rw [hi]; simp))
    have hfl : Cutp.flatF S.held ++ [.bool f.b, .bool f.e, .int .i64 f.q, .string f.d] = Cutp.flatF (S.held ++ [f]) := by rw [flatF_app]; rfl
    have hs9' : Sl w9 33 4 ao' (S.held.length + 1) cap' (Cutp.flatF (S.held ++ [f])) := by rw [← hfl]; exact hs9
    have hset := K7.1.setHeld (H := S.held ++ [f]) O9 (fun j hj => by simpa using hj) hs9' (by simp) (fun j hj => by
      rcases hb9 with e | e
      · exact .inl (e.symm.trans hj)
      · rw [e] at hj; simp at hj; right; omega) HHo.out
    have HL5 := Lib.hid (show RJ (w9.setCell ⟨r, 3, none⟩ (.slice ao' (S.held.length + 1) cap')) ⟨r, some ⟨gb, go, none⟩, cl, ao', cap'⟩ S2 ∧ RStep w (w9.setCell ⟨r, 3, none⟩ (.slice ao' (S.held.length + 1) cap')) ⟨r, some ⟨gb, go, none⟩, cl, ah, ch⟩ ⟨r, some ⟨gb, go, none⟩, cl, ao', cap'⟩ from ⟨HE2.out ▸ hset.1, HS7.out.trans hset.2⟩)
    have hrn : r ∉ (blk ah).toList := fun hm => K7.1.nh (by simpa using hm)
    have c9 : w9.cell? ⟨r, 3, none⟩ = some (.slice ah S.held.length ch) := (World.cell?_of_block (O9.block r hr7 hrn)).trans c3
    have z9 : w9.frozen? ⟨r, 3, none⟩ = false := frozen_of (O9.at K7.1.obj hrn) 3
    refine hK _ _ c9 ?_
    clear hK K hset hs9 hs9' hg9 hb9 O9 oa K7 c3 c3a b0 b1 b2 b3 HS7 HE2
    iterate 2 ((with_reducible refine mixR_op ?_ ?_); (focus rfl); intro K hK; go_step; refine hK _ _ c9 ?_; clear hK K)
    refine mixR_nil ?_
    intro _ K hK
    go_step
    refine hK _ _ ?_
    clear hK K
    go_upto_region 11 with fail
    generalize w9.setCell ⟨r, 3, none⟩ (.slice ao' (S.held.length + 1) cap') = w8 at *
    clear c9 z9
    go_wp2_with fail
    go_loopg [11] S2.mu (fun g x wr => ∃ (al' : Option Addr) (cl' : Nat) (ah' : Option Addr) (ch' : Nat) (T : J) (ao : Option Addr) (cap : Nat) (outs : List ByteArray), x = .slice ao outs.length cap ∧ RLoop ⟨r, some ⟨gb, go, none⟩, cl, ah, ch⟩ S2 w wr ⟨r, al', cl', ah', ch'⟩ T ao cap outs ∧ g = T.mu)
    case atStart => exact ⟨_, _, _, _, S2, none, 0, [], rfl, ⟨HL5.out.1, HL5.out.2, Sl.nil _ _ _, by simp [blk], by simp, by simp⟩, rfl⟩
    case round =>
      clear HL5
      obtain ⟨al', cl', ah', ch', T, ao, cap, outs, rfl, hR, hgk⟩ := hrel
      have HGK := Lib.hid hgk
      have HCall := Lib.hid (step_any _ T wr hR.rj)
      have hfew := hR.few
      have HRL := Lib.hid hR
      have HOkT := Lib.hid hR.rj.ok
      clear hR hgk
      go_wp2_with fail
      refine HCall.out.mono ?_
      clear HCall
      rintro e w1 (⟨hs, rfl, hj, o1⟩ | ⟨T', o, ⟨r', al2, cl2, ah2, ch2⟩, ao1, cap1, hs, rfl, hsl, hj, hst⟩)
      · have h1 := HRL.out.turn hj (RStep.quiet o1) rfl (Nat.le_refl _)
        have hout := h1.out
        have hnils : Src w1 1 none 0 ([] : List Value) := (Sl.nil w1 9 1).src (fun u hu => by cases hu)
        have H1 := Lib.hid h1
        have hcnt2 : S2.held.length ≤ 129 := HN2.out
        have HSt := Lib.hid hs
        clear hs hj o1 h1 HRL
        go_upto_region 14 with (at_builtin; refine wpList_append_src _ rfl (.tmp 80) (.tmp 81) 38 rfl 9 i9 (.string ⟨#[]⟩) 1 16 Try.underlying38 hi9 hz9 hsz9 hby9 rfl _ _ _ _ rfl hout _ _ _ _ rfl hnils (by unfold maxLen; omega) (by omega) ?_; intro ao2 cap2 w2 hs2 hg2 hb2)
        have h2 := H1.out.appn hs2 hg2 hb2
        clear hs2 hg2 hb2 H1 hout hnils
        have HA2 := Lib.hid h2
        have hd := h2.rj.drew
        have c3 : w2.drew.cell? ⟨r, 3, none⟩ = some (.slice ah' T.held.length ch') := hd.c3
        have c1 : w2.drew.cell? ⟨r, 1, none⟩ = some (.int .i64 T.most) := hd.c1
        have hcnt := HOkT.out.count
        have hmo0 := HOkT.out.most0
        have hmo1 := HOkT.out.most1
        clear h2 hd
        by_cases hle : (T.held.length : Int) ≤ T.most
        · have dle : decide ((T.held.length : Int) ≤ T.most) = true := by simpa using hle
          have hrun := HA2.out.run
          rw [run_wait HSt.out hle] at hrun
          have HF := Lib.hid (show RPutPost ⟨r, some ⟨gb, go, none⟩, cl, ah, ch⟩ S link f w (.returned (.tuple #[.slice ao2 outs.length cap2, .int .i64 0])) w2.drew from by
            have e1 := HPut.out.1
            have e2 := HPut.out.2.1
            have e3 := HPut.out.2.2
            unfold RPutPost
            rw [e1, e2, e3, hrun]
            simp only [List.append_nil]
            exact ⟨_, _, _, rfl, HA2.out.out.only (Only.drew (Only.refl [] w2)) (by simp), HA2.out.rj.drew, HA2.out.st.trans (RStep.quiet (Only.drew (Only.refl [] w2)))⟩)
          clear hrun HA2
          go_upto_region 15 with fail
          refine wp_region_reads mixed (by kernel_rfl) ?_
          iterate 10 ((with_reducible refine wpStill_op ?_ ?_ ?_); (focus kernel_rfl); (focus kernel_rfl); intro K hK; go_step; refine hK _ ?_; clear hK K)
          refine wpStill_nil ?_
          clear c3 c1
          go_wp2_with fail
          go_ret2
          exact HF.out
        · have dle : decide ((T.held.length : Int) ≤ T.most) = false := by simpa using hle
          go_upto_region 15 with fail
          refine wp_region_reads mixed (by kernel_rfl) ?_
          iterate 10 ((with_reducible refine wpStill_op ?_ ?_ ?_); (focus kernel_rfl); (focus kernel_rfl); intro K hK; go_step; refine hK _ ?_; clear hK K)
          refine wpStill_nil ?_
          clear c3 c1
          have hq2 := HA2.out.turn HA2.out.rj.drew (RStep.quiet (Only.drew (Only.refl [] w2))) rfl (Nat.le_refl _)
          clear HA2
          generalize w2.drew = w3 at *
          have hfi := rfirst_any _ T w3 hq2.rj (by omega)
          have HQ2 := Lib.hid hq2
          clear hq2
          go_wp2_with fail
          refine hfi.mono ?_
          rintro e w4 ⟨k, hk, rfl, hoff, o4⟩
          have hq4 := HQ2.out.turn (HQ2.out.rj.quiet o4) (RStep.quiet o4) rfl (Nat.le_refl _)
          clear HQ2 o4 hfi
          have hq5 := hq4.turn hq4.rj.drew (RStep.quiet (Only.drew (Only.refl [] w4))) rfl (Nat.le_refl _)
          clear hq4
          have hfr := HOkT.out.frag _ (List.getElem_mem hk)
          have c0 : w4.drew.cell? ⟨r, 0, none⟩ = some (.bool T.short) := hq5.rj.c0
          have c3 : w4.drew.cell? ⟨r, 3, none⟩ = some (.slice ah' T.held.length ch') := hq5.rj.c3
          obtain ⟨gb, go, hah⟩ := hq5.rj.held.some (by omega)
          have hah' : ah' = some ⟨gb, go, none⟩ := hah
          subst hah'
          have f2 := hq5.rj.held.cells _ _ (Cutp.flatF_get T.held k hk).2.2.1
          simp only [← Nat.add_assoc] at f2
          have hr := ring37s HOkT.out.ring w4.drew
          obtain ⟨r1, r2⟩ := HOkT.out.r0
          have hlp := least_pos HOkT.out hfr.1 hfr.2.1 hoff
          have HLG := Lib.hid (letGo_least HOkT.out hk hoff)
          have c4 : w4.drew.cell? ⟨r, 4, none⟩ = some (.int .i64 T.next) := hq5.rj.c4
          have z4 : w4.drew.frozen? ⟨r, 4, none⟩ = false := hq5.rj.fz 4
          have hnx := hq5.rj.setNext ((T.held[k].q + 1) % T.R) (Int.emod_nonneg _ (by omega)) (Int.emod_lt_of_pos _ (by omega))
          have HNx := Lib.hid hnx
          have HQ5 := Lib.hid hq5
          have HLp := Lib.hid hlp
          obtain ⟨x0, x1, _⟩ := hfr
          have nR : ¬ T.R = 0 := by omega
          clear hoff hnx hq5 hlp
          generalize hqk : T.held[k].q = qk at *
          have hln := HOkT.out.lost0
          have hl1 := HOkT.out.lost1
          go_upto_region 18 with fail
          refine wp_region_free 16 [] [16, 17, 18] mixed (by kernel_rfl) (fun d v c a w h => by cases d <;> exact h) ?_
          simp only [Region.heads, List.range, List.range.loop, List.filter_cons, List.filter_nil, List.contains_nil, Bool.not_false, if_true, List.nil_append, List.filterMap_cons, List.filterMap_nil, List.getElem?_cons_succ, List.getElem?_cons_zero]
          iterate 14 ((with_reducible refine wpStill_op ?_ ?_ ?_); (focus kernel_rfl); (focus kernel_rfl); intro K hK; go_step; refine hK _ ?_; clear hK K)
          still_call hr
          iterate 1 ((with_reducible refine wpStill_op ?_ ?_ ?_); (focus kernel_rfl); (focus kernel_rfl); intro K hK; go_step; refine hK _ ?_; clear hK K)
          refine wpStill_nil ?_
          clear c0 c3 f2 hr
          generalize w4.drew = w5 at *
          go_upto_region 19 with fail
          generalize w5.setCell ⟨r, 4, none⟩ (.int .i64 ((qk + 1) % T.R)) = w6 at *
          clear c4 z4
          have HLet := Lib.hid (rlet_any _ _ k w6 HNx.out.1 hk)
          go_wp2_with fail
          refine HLet.out.mono ?_
          clear HLet
          rintro e w7 ⟨⟨r', al2, cl2, ah2, ch2⟩, rfl, h7, s7⟩
          have er : r' = r := s7.r
          subst er
          have c5 : w7.cell? ⟨r', 5, none⟩ = some (.int .i64 T.lost) := h7.c5
          have z5 : w7.frozen? ⟨r', 5, none⟩ = false := h7.fz 5
          obtain ⟨h8, s8⟩ := h7.setLost (T.lost + 1) (out_lost HNx.out.1.ok hk)
          have hover := over_down HOkT.out (by omega)
          have hro := run_over HOkT.out HSt.out (by omega)
          rw [HLG.out] at hover hro
          rw [HLp.out] at h8
          have hend := HQ5.out.turn h8 ((HNx.out.2.trans s7).trans s8) hro (Nat.le_of_lt hover.2.2)
          have HEnd := Lib.hid hend
          have HMu := Lib.hid hover.2.1
          clear hend hover hro h7 s7 h8 s8 HQ5 HNx
          go_wp2_with fail
          go_roundg (J.mu { T with held := outL T.held k, lost := T.lost + 1, next := pos T.R T.next (T.least + 1) })
          case measure => rw [HGK.out]; exact HMu.out
          case rel => exact ⟨_, _, _, _, _, _, _, outs, rfl, HEnd.out, rfl⟩
      · have er : r' = r := hst.r
        subst er
        have hout := HRL.out.out.only hst.only (fun j hj => (HRL.out.bl j hj).1)
        have hol : o.toList.length ≤ 1 := by cases o <;> simp
        have hcnt : S2.held.length ≤ 129 := HN2.out
        have HTd := Lib.hid (fun ao' cap' w2 a b c => HRL.out.told (ao' := ao') (cap' := cap') (w2 := w2) hs hj hst a b c)
        clear hs hj hst
        go_wp2_with (at_builtin; refine wpList_append_src _ rfl (.tmp 80) (.tmp 81) 38 rfl 9 i9 (.string ⟨#[]⟩) 1 16 Try.underlying38 hi9 hz9 hsz9 hby9 rfl _ _ _ _ rfl hout _ _ _ _ rfl (str_src hsl) (by unfold maxLen; omega) (by omega) ?_; intro ao2 cap2 w2 hs2 hg2 hb2; (have e9 := Lib.hid (HTd.out ao2 cap2 w2 hs2 hg2 hb2)); clear hs2 hg2 hb2)
        go_roundg T'.mu
        case measure => rw [HGK.out]; exact e9.out.2
        case rel => exact ⟨_, _, _, _, T', ao2, cap2, outs ++ o.toList, by rw [List.length_append], e9.out.1, rfl⟩
/-- Put, whatever it is handed. -/
theorem rput_any (m : RM) (S : J) (link : Int) (f : Fr) (w : World) (h : RJ w m S) (hc : S.held.length ≤ 128) (hl : S.lost + S.held.length < 1099511627776) :
    Calls Try.prog 21 #[.pointer (some ⟨m.r, 0, none⟩), .int .i64 link, .agg #[.bool f.b, .bool f.e, .int .i64 f.q, .string f.d]] w (RPutPost m S link f w) := by
  cases hh : S.has link with
  | false => exact rput_none m S link f w h hh
  | true =>
    cases hm : mayF S.short f with
    | false => exact rput_bad m S link f w h hh hm
    | true => exact rput_good m S link f w h hh hm hc hl
end Go.Proofs.Ytcfgbfabokhjcaa

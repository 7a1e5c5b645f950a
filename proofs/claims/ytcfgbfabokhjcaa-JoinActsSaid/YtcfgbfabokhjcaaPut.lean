/- The contract of chapter 19's Put. -/
import Derived.Test.YtcfgbfabokhjcaaRun
import Derived.Test.YtcfgbfabokhjcaaPut8
namespace Go.Proofs.Ytcfgbfabokhjcaa
namespace Plain
open Go
def J.upd (S : J) (link : Int) (f : Fr) : J := { S with links := updI S.links link f.q }
theorem lay_eq (S : J) (link : Int) (f : Fr) : S.lay link f = if ((S.upd link f).get f.q).isSome = true ∨ S.R / 2 ≤ off S.R S.next f.q then { S.upd link f with lost := S.lost + 1 } else { S.upd link f with held := S.held ++ [f] } := rfl
theorem may_spec {short : Bool} {f : Fr} (h : mayF short f = true) : 0 ≤ f.q ∧ f.q < ring short ∧ f.d.size ≤ 2048 := by simpa [mayF] using h
theorem upd_ok {S : J} (h : S.Ok) (link : Int) {f : Fr} (hf : mayF S.short f = true) : (S.upd link f).Ok := by
  obtain ⟨f0, f1, _⟩ := may_spec hf
  rw [← h.ring] at f1
  refine ⟨h.ring, h.next0, h.next1, h.most0, h.most1, h.nodup, h.frag, ?_, ?_, ?_, h.count, h.lost0, h.lost1⟩
  · show ((updI S.links link f.q).map (·.1)).Nodup
    unfold updI
    rw [map_put_keys]
    exact h.lnodup
  · intro p hp
    obtain ⟨a, ha, e⟩ := List.mem_map.1 hp
    have := h.link a ha
    by_cases ea : a.1 = link
    · rw [if_pos ea] at e
      subst e
      exact ⟨by show 0 ≤ link; omega, by show link ≤ _; omega, by show -1 ≤ f.q; omega, f1⟩
    · rw [if_neg ea] at e
      subst e
      exact this
  · show (updI S.links link f.q).length ≤ 8
    unfold updI
    rw [List.length_map]
    exact h.links8
theorem lost_ok {S : J} (h : S.Ok) (hl : S.lost + S.held.length < 1099511627776) : J.Ok { S with lost := S.lost + 1 } :=
  ⟨h.ring, h.next0, h.next1, h.most0, h.most1, h.nodup, h.frag, h.lnodup, h.link, h.links8, h.count, by have := h.lost0; show 0 ≤ S.lost + 1; omega, by show S.lost + 1 + (S.held.length : Int) ≤ _; omega⟩
theorem hold_ok {S : J} (h : S.Ok) {f : Fr} (hf : mayF S.short f = true) (hg : S.get f.q = none) (hc : S.held.length ≤ 128) (hl : S.lost + S.held.length < 1099511627776) : J.Ok { S with held := S.held ++ [f] } := by
  obtain ⟨f0, f1, f2⟩ := may_spec hf
  rw [← h.ring] at f1
  refine ⟨h.ring, h.next0, h.next1, h.most0, h.most1, ?_, ?_, h.lnodup, h.link, h.links8, ?_, h.lost0, ?_⟩
  · show ((S.held ++ [f]).map (·.q)).Nodup
    rw [List.map_append, List.nodup_append]
    refine ⟨h.nodup, by simp, fun a ha b hb e => ?_⟩
    simp at hb
    subst hb
    obtain ⟨g, hg1, hg2⟩ := List.mem_map.1 ha
    unfold J.get at hg
    have := List.find?_eq_none.1 hg g hg1
    simp at this
    exact this (by rw [hg2, e])
  · intro g hg
    rcases List.mem_append.1 hg with hg | hg
    · exact h.frag g hg
    · simp at hg
      subst hg
      exact ⟨f0, f1, f2⟩
  · show (S.held ++ [f]).length ≤ 129
    simp; omega
  · show S.lost + ((S.held ++ [f]).length : Int) ≤ _
    simp; omega
theorem lay_ok {S : J} (h : S.Ok) (link : Int) {f : Fr} (hf : mayF S.short f = true) (hc : S.held.length ≤ 128) (hl : S.lost + S.held.length < 1099511627776) : (S.lay link f).Ok := by
  rw [lay_eq]
  have hu := upd_ok h link hf
  split
  · exact lost_ok hu hl
  · rename_i hn
    refine hold_ok hu hf ?_ hc hl
    cases hg : (S.upd link f).get f.q with
    | none => rfl
    | some g => exact absurd (.inl (by rw [hg]; rfl)) hn
end Plain
open Go.RowKit
open Plain

theorem PJ.setLost {w : World} {p bl bh : Nat} {S : J} (h : PJ w p bl bh S) (n : Int) (hok : J.Ok { S with lost := n }) : PJ (w.setCell ⟨p, 6, none⟩ (.int .i64 n)) p bl bh { S with lost := n } := by
  refine ⟨?_, h.links.setCell (Ne.symm h.p_bl) _, h.held.setCell (Ne.symm h.p_bh) _, h.ne, hok⟩
  have := heap_setCell_same (o := 6) h.obj (.int .i64 n)
  rw [this]
  rfl
theorem PJ.setLink {w w' : World} {p bl bh : Nat} {S : J} (h : PJ w p bl bh S) (link : Int) (f : Fr) (hh : S.has link = true) (hf : mayF S.short f = true) (hm : HasMap Try.prog 3 (Value.int .i64) w' bl (putL S.links link f.q)) (ht : w.mapTurned w' bl) : PJ w' p bl bh (S.upd link f) ∧ Only [bl] w w' := by
  have o := only_turned ht
  refine ⟨⟨o.at h.obj (by simpa using h.p_bl), ?_, h.held.same (o.block _ h.lt.2.2 (by simpa using h.ne.symm)), h.ne, upd_ok h.ok link hf⟩, o⟩
  unfold putL at hm
  rw [← has_look, hh] at hm
  exact hm
theorem PJ.setHeld {w w' : World} {p bl bh : Nat} {S : J} (h : PJ w p bl bh S) (f : Fr) (hg : S.get f.q = none) (hok : J.Ok { S with held := S.held ++ [f] }) (hmm : HasMap Try.prog 3 frV w' bh (putL (hm S.held) f.q f)) (ht : w.mapTurned w' bh) : PJ w' p bl bh { S with held := S.held ++ [f] } ∧ Only [bh] w w' := by
  have o := only_turned ht
  refine ⟨⟨o.at h.obj (by simpa using h.p_bh), h.links.same (o.block _ h.lt.2.1 (by simpa using h.ne)), ?_, h.ne, hok⟩, o⟩
  unfold putL at hmm
  rw [hm_get, hg] at hmm
  have e : hm (S.held ++ [f]) = hm S.held ++ [(f.q, f)] := by simp [hm]
  show HasMap Try.prog 3 frV w' bh (hm (S.held ++ [f]))
  rw [e]
  exact hmm

/-- what Put hands back. -/
def putE (S : J) (link : Int) (f : Fr) : Int := if S.has link = false then 1902 else if mayF S.short f = false then 1900 else 0
def putS (S : J) (link : Int) (f : Fr) : J := if putE S link f = 0 then (S.put link f).1 else S
def putO (S : J) (link : Int) (f : Fr) : List ByteArray := if putE S link f = 0 then (S.put link f).2 else []

set_option maxRecDepth 100000 in
set_option maxHeartbeats 4000000 in
theorem put_none (p bl bh : Nat) (S : J) (link : Int) (f : Fr) (w : World) (h : PJ w p bl bh S) (l0 : -9223372036854775808 ≤ link) (l1 : link ≤ 9223372036854775807) (hh : S.has link = false) :
    Calls Try.prog 20 #[.pointer (some ⟨p, 0, none⟩), .int .i64 link, .agg #[.bool f.b, .bool f.e, .int .i64 f.q, .string f.d]] w fun e w' => e = .returned (.tuple #[.slice none 0 0, .int .i64 1902]) ∧ PJ w' p bl bh S ∧ Only [] w w' := by
  have hp := h.alloc (.cells #[.bool f.b, .bool f.e, .int .i64 f.q, .string f.d] 33)
  have ho := (Only.refl [] w).alloc (.cells #[.bool f.b, .bool f.e, .int .i64 f.q, .string f.d] 33)
  have H := Lib.hid (And.intro hp ho)
  have HH := Lib.hid hh
  clear h hp ho hh
  go_enter Try.func20, Try.ntmps20
  go_upto_region 3 with fail
  generalize World.alloc w _ = w1 at *
  have c4 := H.out.1.c4
  have k1 := H.out.1.linkAt link l0 l1
  rw [HH.out] at k1
  go_wp2_with fail
  go_ret2
  exact ⟨rfl, H.out⟩

/-- what Put's regions keep: the fragment's own block. -/
def Kq (p bl bh B : Nat) (S : J) (f : Fr) (w w' : World) : Prop := PJ w' p bl bh S ∧ w'.heap[B]? = some (.cells #[.bool f.b, .bool f.e, .int .i64 f.q, .string f.d] 33 (0, 0)) ∧ Only [p, bl, bh] w w'
theorem Kq.step {p bl bh B : Nat} {S T : J} {f : Fr} {w w1 w2 : World} (h : Kq p bl bh B S f w w1) (hp : PJ w2 p bl bh T) (o : Only [p, bl, bh] w1 w2) (hB : B ∉ [p, bl, bh]) : Kq p bl bh B T f w w2 := ⟨hp, o.at h.2.1 hB, h.2.2.trans o⟩
theorem Kq.drew {p bl bh B : Nat} {S : J} {f : Fr} {w w' : World} (h : Kq p bl bh B S f w w') : Kq p bl bh B S f w w'.drew := ⟨h.1.drew, h.2.1, h.2.2.drew⟩
theorem Kq.alloc {p bl bh B : Nat} {S : J} {f : Fr} {w w' : World} (h : Kq p bl bh B S f w w') (o : Obj) : Kq p bl bh B S f w (w'.alloc o) := ⟨h.1.alloc o, ((Only.refl [] w').alloc o).at h.2.1 (by simp), h.2.2.alloc o⟩
theorem Kq.quiet {p bl bh B : Nat} {S : J} {f : Fr} {w w1 w2 : World} (h : Kq p bl bh B S f w w1) (o : Only [] w1 w2) : Kq p bl bh B S f w w2 := ⟨h.1.only o (by simp) (by simp) (by simp), o.at h.2.1 (by simp), h.2.2.trans (o.mono (by simp))⟩
theorem Kq.b0 {p bl bh B : Nat} {S : J} {f : Fr} {w w' : World} (h : Kq p bl bh B S f w w') : w'.cell? ⟨B, 0, none⟩ = some (.bool f.b) := by have := cell_of h.2.1 0; simpa using this
theorem Kq.b1 {p bl bh B : Nat} {S : J} {f : Fr} {w w' : World} (h : Kq p bl bh B S f w w') : w'.cell? ⟨B, 1, none⟩ = some (.bool f.e) := by have := cell_of h.2.1 1; simpa using this
theorem Kq.b2 {p bl bh B : Nat} {S : J} {f : Fr} {w w' : World} (h : Kq p bl bh B S f w w') : w'.cell? ⟨B, 2, none⟩ = some (.int .i64 f.q) := by have := cell_of h.2.1 2; simpa using this
theorem Kq.b3 {p bl bh B : Nat} {S : J} {f : Fr} {w w' : World} (h : Kq p bl bh B S f w w') : w'.cell? ⟨B, 3, none⟩ = some (.string f.d) := by have := cell_of h.2.1 3; simpa using this

def PutEnd (p bl bh : Nat) (S : J) (link : Int) (f : Fr) (w : World) (e : Ending) (w' : World) : Prop := ∃ ao cap, e = .returned (.tuple #[.slice ao (S.put link f).2.length cap, .int .i64 0]) ∧ Sl w' 9 1 ao (S.put link f).2.length cap ((S.put link f).2.map Value.string) ∧ (∀ k, blk ao = some k → w.heap.size ≤ k) ∧ PJ w' p bl bh (S.put link f).1 ∧ Only [p, bl, bh] w w' ∧ (S.put link f).2.length ≤ S.held.length + 1

set_option maxRecDepth 100000 in
set_option maxHeartbeats 4000000 in
theorem put_bad19 (p bl bh : Nat) (S : J) (link : Int) (f : Fr) (w : World) (h : PJ w p bl bh S) (l0 : -9223372036854775808 ≤ link) (l1 : link ≤ 9223372036854775807) (hh : S.has link = true) (hm : mayF S.short f = false) :
    Calls Try.prog 20 #[.pointer (some ⟨p, 0, none⟩), .int .i64 link, .agg #[.bool f.b, .bool f.e, .int .i64 f.q, .string f.d]] w fun e w' => e = .returned (.tuple #[.slice none 0 0, .int .i64 1900]) ∧ PJ w' p bl bh S ∧ Only [p, bl, bh] w w' := by
  have K0 : Kq p bl bh w.heap.size S f w (w.alloc (.cells #[.bool f.b, .bool f.e, .int .i64 f.q, .string f.d] 33)) := ⟨h.alloc _, heap_alloc_new' w _, (Only.refl _ _).alloc _⟩
  have HM := Lib.hid hm
  have HH := Lib.hid hh
  clear h hm hh
  go_enter Try.func20, Try.ntmps20
  go_upto_region 3 with fail
  generalize World.alloc w _ = w1 at *
  generalize w.heap.size = B at *
  have c4 := K0.1.c4
  have k1 := K0.1.linkAt link l0 l1
  rw [HH.out] at k1
  go_wp2_with fail
  clear k1 c4
  refine wp_region_mix (Kq p bl bh B S f w) [(1, true), (0, true), (2, false), (3, false), (4, false), (5, false), (6, false), (7, true), (8, true), (9, false), (10, false)] mixed (by kernel_rfl) (fun d v c a w h => by cases d <;> exact h) K0.drew ?_
  simp only [List.filterMap_cons, List.filterMap_nil, List.getElem?_cons_succ, List.getElem?_cons_zero, Option.map_some]
  have K1 := K0.drew
  clear K0
  generalize w1.drew = w2 at *
  refine mix_move rfl ?_
  (refine mix_free rfl (v := ?_) (fun w' h' => ?_) ?_; rotate_left; (focus (have b0 := h'.b0; have b1 := h'.b1; have b2 := h'.b2; have b3 := h'.b3; go_simp <;> with_reducible rfl)))
  have c2 := K1.1.c2
  iterate 3 ((with_reducible refine mix_op ?_ ?_); (focus rfl); intro K hK; go_step; refine hK _ _ K1 ?_; clear hK K)
  with_reducible refine mix_op ?_ ?_
  · rfl
  intro K hK
  go_step
  refine (put8 f S.short w2).mono ?_
  rintro e w3 ⟨s, rfl, ho⟩
  rw [if_neg (by rw [HM.out]; decide)]
  have K2 := K1.quiet ho
  refine hK _ _ K2 ?_
  clear hK K K1 ho c2
  ((with_reducible refine mix_op ?_ ?_); (focus rfl); intro K hK; go_step; refine hK _ _ K2 ?_; clear hK K)
  iterate 2 (refine mix_free rfl (v := ?_) (fun w' h' => ?_) ?_; rotate_left; (focus (go_simp <;> with_reducible rfl)))
  iterate 2 ((with_reducible refine mix_op ?_ ?_); (focus rfl); intro K hK; go_step; refine hK _ _ K2 ?_; clear hK K)
  refine mix_nil ?_
  go_wp2_with fail
  go_ret2
  exact ⟨rfl, K2.1, K2.2.2⟩

set_option maxRecDepth 100000 in
set_option maxHeartbeats 4000000 in
theorem put_good (p bl bh : Nat) (S : J) (link : Int) (f : Fr) (w : World) (h : PJ w p bl bh S) (l0 : -9223372036854775808 ≤ link) (l1 : link ≤ 9223372036854775807) (hh : S.has link = true) (hm : mayF S.short f = true) (hc : S.held.length ≤ 128) (hl : S.lost + S.held.length < 1099511627776) :
    Calls Try.prog 20 #[.pointer (some ⟨p, 0, none⟩), .int .i64 link, .agg #[.bool f.b, .bool f.e, .int .i64 f.q, .string f.d]] w (PutEnd p bl bh S link f w) := by
  have K0 : Kq p bl bh w.heap.size S f w (w.alloc (.cells #[.bool f.b, .bool f.e, .int .i64 f.q, .string f.d] 33)) := ⟨h.alloc _, heap_alloc_new' w _, (Only.refl _ _).alloc _⟩
  have hlt := h.lt
  have HB := Lib.hid (show w.heap.size ∉ [p, bl, bh] by simp; omega)
  obtain ⟨f0, f1, f2⟩ := may_spec hm
  have hr := ring_is S.short
  have f3 : f.q < 16777216 := by rcases hr with e | e <;> rw [e] at f1 <;> omega
  have hq1 : f.q < S.R := by rw [h.ok.ring]; exact f1
  have HM := Lib.hid hm
  have HH := Lib.hid hh
  have HOk := Lib.hid h.ok
  have HU := Lib.hid (upd_ok h.ok link hm)
  have hl88 := h.ok.links8
  have hcl := h.ok.lost0
  have HEnd := Lib.hid (fun w1 (K : Kq p bl bh w.heap.size (S.lay link f) f w w1) => (show Calls Try.prog 34 #[.pointer (some ⟨p, 0, none⟩)] w1 (fun e w' => ∃ ao n cap, e = .returned (.slice ao n cap) ∧ PutEnd p bl bh S link f w (.returned (.tuple #[.slice ao n cap, .int .i64 0])) w') from (run_any p bl bh _ w1 K.1).mono fun e w' => by
    rintro ⟨ao, cap, rfl, a1, a2, a3, a4, a5⟩
    refine ⟨ao, _, cap, rfl, ao, cap, rfl, a1, fun k hk => Nat.le_trans K.2.2.size (a2 k hk), a3, K.2.2.trans (a4.mono (by simp)), ?_⟩
    have e1 : (S.lay link f).held.length ≤ S.held.length + 1 := by
      rw [lay_eq]
      split
      · exact Nat.le_succ _
      · show (S.held ++ [f]).length ≤ _; simp
    exact Nat.le_trans a5 e1))
  clear h hh hm hr f1
  go_enter Try.func20, Try.ntmps20
  go_upto_region 3 with fail
  generalize World.alloc w _ = w1 at *
  generalize w.heap.size = B at *
  have c4 := K0.1.c4
  have k1 := K0.1.linkAt link l0 l1
  rw [HH.out] at k1
  go_wp2_with fail
  clear k1 c4
  refine wp_region_mix (Kq p bl bh B S f w) [(1, true), (0, true), (2, false), (3, false), (4, false), (5, false), (6, false), (7, true), (8, true), (9, false), (10, false)] mixed (by kernel_rfl) (fun d v c a w h => by cases d <;> exact h) K0.drew ?_
  simp only [List.filterMap_cons, List.filterMap_nil, List.getElem?_cons_succ, List.getElem?_cons_zero, Option.map_some]
  have K1 := K0.drew
  clear K0
  generalize w1.drew = w2 at *
  refine mix_move rfl ?_
  (refine mix_free rfl (v := ?_) (fun w' h' => ?_) ?_; rotate_left; (focus (have b0 := h'.b0; have b1 := h'.b1; have b2 := h'.b2; have b3 := h'.b3; go_simp <;> with_reducible rfl)))
  have c2 := K1.1.c2
  iterate 3 ((with_reducible refine mix_op ?_ ?_); (focus rfl); intro K hK; go_step; refine hK _ _ K1 ?_; clear hK K)
  with_reducible refine mix_op ?_ ?_
  · rfl
  intro K hK
  go_step
  refine (put8 f S.short w2).mono ?_
  rintro e w3 ⟨s, rfl, ho⟩
  rw [if_pos HM.out]
  have K2 := K1.quiet ho
  refine hK _ _ K2 ?_
  clear hK K K1 ho c2
  ((with_reducible refine mix_op ?_ ?_); (focus rfl); intro K hK; go_step; refine hK _ _ K2 ?_; clear hK K)
  iterate 2 (refine mix_free rfl (v := ?_) (fun w' h' => ?_) ?_; rotate_left; (focus (go_simp <;> with_reducible rfl)))
  iterate 2 ((with_reducible refine mix_op ?_ ?_); (focus rfl); intro K hK; go_step; refine hK _ _ K2 ?_; clear hK K)
  refine mix_nil ?_
  go_upto_region 9 with fail
  have c4 := K2.1.c4
  have b2 := K2.b2
  refine wp_region_free 7 [] [7] mixed (by kernel_rfl) (fun d v c a w h => by cases d <;> exact h) ?_
  simp only [Region.heads, List.range, List.range.loop, List.filter_cons, List.filter_nil, List.contains_nil, Bool.not_false, if_true, List.nil_append, List.filterMap_cons, List.filterMap_nil, List.getElem?_cons_succ, List.getElem?_cons_zero]
  repeat (refine wpStill_op rfl rfl (fun K hK => ?_); go_step; refine hK _ ?_; clear hK K)
  refine wpStill_nil ?_
  clear c4 b2
  have K3 := K2.drew
  clear K2
  generalize w3.drew = w4 at *
  refine wpList_storeL _ rfl _ _ _ 69 rfl 3 3 keyed Try.underlying3 Try.underlying69 (Value.int .i64) bl S.links rfl K3.1.links (by unfold maxLen; omega) _ f.q rfl rfl (wf_int l0 l1) ?_
  intro w5 hm5 ht5
  have hs := K3.1.setLink link f HH.out HM.out hm5 ht5
  have K4 := K3.step hs.1 (hs.2.mono (by simp)) HB.out
  clear K3 hs hm5 ht5
  have hr0 := HOk.out.r0
  have hr := HOk.out.isRing
  obtain ⟨r1, r2⟩ := hr0
  have HLk := Lib.hid (fun w' (K : Kq p bl bh B (S.upd link f) f w w') => K.1.heldAt f.q (by omega) (by omega))
  have HOff := Lib.hid (fun w' (K : Kq p bl bh B (S.upd link f) f w w') => offset_any p S.R S.next f.q w' HOk.out.isRing HOk.out.next0 HOk.out.next1 f0 hq1 K.1.c0 K.1.c1)
  clear hr
  go_upto_region 10 with fail
  refine wp_region_mix (Kq p bl bh B (S.upd link f) f w) [(0, true), (1, true), (2, true), (3, true), (4, true), (5, true), (6, true), (7, true), (8, true), (9, true), (10, false), (11, false), (12, false)] mixed (by kernel_rfl) (fun d v c a w h => by cases d <;> exact h) K4.drew ?_
  simp only [List.filterMap_cons, List.filterMap_nil, List.getElem?_cons_succ, List.getElem?_cons_zero, Option.map_some]
  have K5 := K4.drew
  clear K4
  generalize w5.drew = w6 at *
  refine mix_move rfl ?_
  iterate 3 (refine mix_free rfl (v := ?_) (fun w' h' => ?_) ?_; rotate_left; (focus (have c5 := h'.1.c5; go_simp <;> with_reducible rfl)))
  iterate 2 (refine mix_free rfl (v := ?_) (fun w' h' => ?_) ?_; rotate_left; (focus (have b2 := h'.b2; go_simp <;> with_reducible rfl)))
  (refine mix_free rfl (v := ?_) (fun w' h' => ?_) ?_; rotate_left; (focus (have lk := HLk.out _ h'; go_simp <;> with_reducible rfl)))
  refine mix_move rfl ?_
  iterate 2 (refine mix_free rfl (v := ?_) (fun w' h' => ?_) ?_; rotate_left; (focus (go_simp <;> with_reducible rfl)))
  with_reducible refine mix_op ?_ ?_
  · rfl
  intro K hK
  go_step
  refine hK _ _ (K5.alloc _) ?_
  clear hK K
  with_reducible refine mix_op ?_ ?_
  · rfl
  intro K hK
  go_step
  have K6 := K5.alloc (.cells #[.bool (((S.upd link f).get f.q).getD zeroF).b, .bool (((S.upd link f).get f.q).getD zeroF).e, .int .i64 (((S.upd link f).get f.q).getD zeroF).q, .string (((S.upd link f).get f.q).getD zeroF).d] 33)
  refine hK _ _ K6 ?_
  clear hK K K5
  generalize w6.alloc _ = w7 at *
  generalize w6.heap.size = T at *
  with_reducible refine mix_op ?_ ?_
  · rfl
  intro K hK
  go_step
  refine hK _ _ K6 ?_
  clear hK K
  refine mix_nil ?_
  clear HLk
  have HLo := Lib.hid (fun w' w2 (K : Kq p bl bh B (S.upd link f) f w w') (hp : PJ w2 p bl bh (S.lay link f)) (o : Only [p, bl, bh] w' w2) => K.step hp o HB.out)
  by_cases his : ((S.upd link f).get f.q).isSome = true
  · have HLay := Lib.hid (show S.lay link f = { S.upd link f with lost := S.lost + 1 } by rw [lay_eq, if_pos (.inl his)])
    rw [his]
    clear his
    go_upto_region 11 with fail
    refine wp_region_mix (Kq p bl bh B (S.upd link f) f w) [(0, false), (1, false), (2, true), (8, true), (3, true), (4, true), (5, true), (6, true), (9, true), (10, true), (11, true), (12, true), (13, true), (7, false), (14, false), (15, false)] mixed (by kernel_rfl) (fun d v c a w h => by cases d <;> exact h) K6.drew ?_
    simp only [List.filterMap_cons, List.filterMap_nil, List.getElem?_cons_succ, List.getElem?_cons_zero, Option.map_some]
    have K7 := K6.drew
    clear K6
    generalize w7.drew = w8 at *
    iterate 2 ((with_reducible refine mix_op ?_ ?_); (focus rfl); intro K hK; go_step; refine hK _ _ K7 ?_; clear hK K)
    iterate 11 ((with_reducible refine mix_free_off ?_ ?_); (focus kernel_rfl))
    iterate 2 ((with_reducible refine mix_off ?_ K7 ?_); (focus kernel_rfl))
    ((with_reducible refine mix_op ?_ ?_); (focus rfl); intro K hK; go_step; refine hK _ _ K7 ?_; clear hK K)
    refine mix_nil ?_
    have c6 : w8.cell? ⟨p, 6, none⟩ = some (.int .i64 S.lost) := K7.1.c6
    have f6 := K7.1.fz 6
    have K8 := HLo.out w8 (w8.setCell ⟨p, 6, none⟩ (.int .i64 (S.lost + 1))) K7 (by rw [HLay.out]; exact K7.1.setLost _ (lost_ok HU.out hl)) ((Only.refl _ _).setCell (.inl (by simp)) _)
    have HE := Lib.hid (HEnd.out _ K8)
    clear K7 K8 HEnd HLo HOff
    go_wp2_with fail
    refine HE.out.mono ?_
    rintro e w9 ⟨ao, n, cap, rfl, hE⟩
    clear HE c6 f6
    have HE := Lib.hid hE
    clear hE
    go_wp2_with fail
    go_ret2
    exact HE.out
  have his' : ((S.upd link f).get f.q).isSome = false := by simpa using his
  have hget : (S.upd link f).get f.q = none := by
    cases hg : (S.upd link f).get f.q with
    | none => rfl
    | some g => rw [hg] at his'; cases his'
  rw [his']
  have hd : (decide (S.R / 2 ≤ off S.R S.next f.q) = true ∧ S.lay link f = { S.upd link f with lost := S.lost + 1 }) ∨ (decide (S.R / 2 ≤ off S.R S.next f.q) = false ∧ S.lay link f = { S.upd link f with held := S.held ++ [f] }) := by
    by_cases hh : S.R / 2 ≤ off S.R S.next f.q
    · exact .inl ⟨by simpa using hh, by rw [lay_eq, if_pos (.inr hh)]⟩
    · exact .inr ⟨by simpa using hh, by rw [lay_eq, if_neg (fun e => e.elim his hh)]⟩
  have HGet := Lib.hid hget
  clear his his' hget
  have hob := off_bd (n := S.next) (q := f.q) HOk.out.isRing
  obtain ⟨o1, o2⟩ := hob
  generalize off S.R S.next f.q = o at *
  have HD := Lib.hid hd
  clear hd
  go_upto_region 11 with fail
  refine wp_region_mix (Kq p bl bh B (S.upd link f) f w) [(0, false), (1, false), (2, true), (8, true), (3, true), (4, true), (5, true), (6, true), (9, true), (10, true), (11, true), (12, true), (13, true), (7, false), (14, false), (15, false)] mixed (by kernel_rfl) (fun d v c a w h => by cases d <;> exact h) K6.drew ?_
  simp only [List.filterMap_cons, List.filterMap_nil, List.getElem?_cons_succ, List.getElem?_cons_zero, Option.map_some]
  have K7 := K6.drew
  clear K6
  generalize w7.drew = w8 at *
  iterate 2 ((with_reducible refine mix_op ?_ ?_); (focus rfl); intro K hK; go_step; refine hK _ _ K7 ?_; clear hK K)
  iterate 2 ((with_reducible refine mix_move ?_ ?_); (focus kernel_rfl))
  iterate 4 ((with_reducible refine mix_free ?_ (v := ?_) (fun w' h' => ?_) ?_); (focus kernel_rfl); rotate_left; (focus (have b2 := h'.b2; go_simp <;> with_reducible rfl)))
  iterate 5 ((with_reducible refine mix_free ?_ (v := ?_) (fun w' h' => ?_) ?_); (focus kernel_rfl); rotate_left; (focus (have c0 : w'.cell? ⟨p, 0, none⟩ = some (.int .i64 S.R) := h'.1.c0; go_simp <;> with_reducible rfl)))
  with_reducible refine mix_op ?_ ?_
  · kernel_rfl
  intro K hK
  go_step
  refine (HOff.out _ K7).mono ?_
  rintro e w9 ⟨rfl, rfl⟩
  refine hK _ _ K7.drew ?_
  clear hK K
  have K8 := K7.drew
  generalize w8.drew = w9 at *
  clear K7
  clear HOff
  rcases HD.out with ⟨dd, hL⟩ | ⟨dd, hL⟩
  · have HLay := Lib.hid hL
    clear hL HD
    ((with_reducible refine mix_op ?_ ?_); (focus kernel_rfl); intro K hK; go_step; refine hK _ _ K8 ?_; clear hK K)
    ((with_reducible refine mix_op ?_ ?_); (focus rfl); intro K hK; go_step; refine hK _ _ K8 ?_; clear hK K)
    refine mix_nil ?_
    have c6 : w9.cell? ⟨p, 6, none⟩ = some (.int .i64 S.lost) := K8.1.c6
    have f6 := K8.1.fz 6
    have K9 := HLo.out w9 (w9.setCell ⟨p, 6, none⟩ (.int .i64 (S.lost + 1))) K8 (by rw [HLay.out]; exact K8.1.setLost _ (lost_ok HU.out hl)) ((Only.refl _ _).setCell (.inl (by simp)) _)
    have HE := Lib.hid (HEnd.out _ K9)
    clear K8 K9 HEnd HLo
    go_wp2_with fail
    refine HE.out.mono ?_
    rintro e w9 ⟨ao, n, cap, rfl, hE⟩
    clear HE c6 f6
    have HE := Lib.hid hE
    clear hE
    go_wp2_with fail
    go_ret2
    exact HE.out
  · have HLay := Lib.hid hL
    clear hL HD
    ((with_reducible refine mix_op ?_ ?_); (focus kernel_rfl); intro K hK; go_step; refine hK _ _ K8 ?_; clear hK K)
    ((with_reducible refine mix_op ?_ ?_); (focus rfl); intro K hK; go_step; refine hK _ _ K8 ?_; clear hK K)
    refine mix_nil ?_
    go_upto_region 13 with fail
    have c5 := K8.1.c5
    have b0 := K8.b0
    have b1 := K8.b1
    have b2 := K8.b2
    have b3 := K8.b3
    refine wp_region_free 7 [] [7] mixed (by kernel_rfl) (fun d v c a w h => by cases d <;> exact h) ?_
    simp only [Region.heads, List.range, List.range.loop, List.filter_cons, List.filter_nil, List.contains_nil, Bool.not_false, if_true, List.nil_append, List.filterMap_cons, List.filterMap_nil, List.getElem?_cons_succ, List.getElem?_cons_zero]
    repeat (refine wpStill_op rfl rfl (fun K hK => ?_); go_step; refine hK _ ?_; clear hK K)
    refine wpStill_nil ?_
    clear c5 b0 b1 b2 b3
    have K9 := K8.drew
    clear K8
    generalize w9.drew = w10 at *
    refine wpList_storeL _ rfl _ _ _ 70 rfl 3 33 keyed Try.underlying3 Try.underlying70 frV bh (hm S.held) rfl K9.1.held (by simp [hm]; unfold maxLen; omega) f.q f rfl rfl (wf_int (by omega) (by omega)) ?_
    intro w11 hm11 ht11
    have hs := K9.1.setHeld f HGet.out (hold_ok HU.out HM.out HGet.out hc hl) hm11 ht11
    have K10 := HLo.out w10 w11 K9 (by rw [HLay.out]; exact hs.1) (hs.2.mono (by simp))
    have HE := Lib.hid (HEnd.out _ K10)
    clear K9 K10 HEnd HLo hs hm11 ht11
    go_wp2_with fail
    refine HE.out.mono ?_
    rintro e w9 ⟨ao, n, cap, rfl, hE⟩
    clear HE
    have HE := Lib.hid hE
    clear hE
    go_wp2_with fail
    go_ret2
    exact HE.out

/-- Put, whatever comes. -/
theorem put_any (p bl bh : Nat) (S : J) (link : Int) (f : Fr) (w : World) (h : PJ w p bl bh S) (l0 : -9223372036854775808 ≤ link) (l1 : link ≤ 9223372036854775807) (hc : S.held.length ≤ 128) (hl : S.lost + S.held.length < 1099511627776) :
    Calls Try.prog 20 #[.pointer (some ⟨p, 0, none⟩), .int .i64 link, .agg #[.bool f.b, .bool f.e, .int .i64 f.q, .string f.d]] w fun e w' => ∃ ao cap, e = .returned (.tuple #[.slice ao (putO S link f).length cap, .int .i64 (putE S link f)]) ∧ Sl w' 9 1 ao (putO S link f).length cap ((putO S link f).map Value.string) ∧ (∀ k, blk ao = some k → w.heap.size ≤ k) ∧ PJ w' p bl bh (putS S link f) ∧ Only [p, bl, bh] w w' ∧ (putO S link f).length ≤ S.held.length + 1 := by
  unfold putO putS
  cases hh : S.has link with
  | false =>
    have e : putE S link f = 1902 := by unfold putE; rw [if_pos hh]
    rw [e, if_neg (by decide), if_neg (by decide)]
    exact (put_none p bl bh S link f w h l0 l1 hh).mono fun e w' ⟨a, b, c⟩ => ⟨none, 0, a, Sl.nil _ _ _, fun k hk => (by cases hk), b, c.mono (by simp), by simp⟩
  | true =>
    cases hm : mayF S.short f with
    | false =>
      have e : putE S link f = 1900 := by unfold putE; rw [if_neg (by simp [hh]), if_pos hm]
      rw [e, if_neg (by decide), if_neg (by decide)]
      exact (put_bad19 p bl bh S link f w h l0 l1 hh hm).mono fun e w' ⟨a, b, c⟩ => ⟨none, 0, a, Sl.nil _ _ _, fun k hk => (by cases hk), b, c, by simp⟩
    | true =>
      have e : putE S link f = 0 := by unfold putE; rw [if_neg (by simp [hh]), if_neg (by simp [hm])]
      rw [e, if_pos rfl, if_pos rfl]
      exact put_good p bl bh S link f w h l0 l1 hh hm hc hl
end Go.Proofs.Ytcfgbfabokhjcaa

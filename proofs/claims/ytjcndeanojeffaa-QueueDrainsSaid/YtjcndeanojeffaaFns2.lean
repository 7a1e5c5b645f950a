/- Contracts of chapter 20's small functions, second part: Drain, Drop, Add. -/
import Derived.Test.YtjcndeanojeffaaFns
namespace Go.Proofs.Ytjcndeanojeffaa
open Go.RowKit
open Plain

theorem LM.At.ne {m : LM} {w : World} (h : m.At w) : blk m.ao ≠ some m.g := by
  intro e
  rcases h.row.2.2.2 with ⟨h1, _⟩ | ⟨g, off, cur, h1, h2, _⟩
  · rw [h1] at e; simp [blk] at e
  · rw [h1] at e
    simp [blk] at e
    rw [e, h.obj] at h2
    injection h2 with h2
    injection h2 with _ h2 _
    cases h2

set_option maxHeartbeats 800000 in
theorem drain_any (m : Mem) (S : Q) (k : Int) (w : World) (h : PQ w m S) (k0 : -9223372036854775808 ≤ k) (k1 : k ≤ 9223372036854775807) :
    Calls Try.prog 16 #[.pointer (some ⟨m.p, 0, none⟩), .int .i64 k] w fun e w' => e = .returned (.int .i64 (S.drainE k)) ∧ ∃ m', PQ w' m' (if S.drainE k = 0 then S.drainS k else S) ∧ Step w w' m m' := by
  have c6 := h.c6
  cases hx : m.at_ k with
  | none =>
    have l1 := h.laneNone k k0 k1 hx
    have he : S.drainE k = 2002 := by unfold Q.drainE; rw [h.lane, hx]; rfl
    have HF := Lib.hid (And.intro h (Step.refl w m))
    rw [he]
    clear h hx he
    go_enter Try.func16, Try.ntmps16
    go_wp2
    go_ret
    exact ⟨rfl, m, HF.out⟩
  | some x =>
    have l1 := h.laneSome k k0 k1 hx
    have he : S.drainE k = 0 := by unfold Q.drainE; rw [h.lane, hx]; rfl
    obtain ⟨hin, hxk⟩ := Mem.at_in hx
    have hat := h.at_ x hin
    have fz := frozen_of hat.obj 1
    have g1 := hat.c1
    have hfin : ∃ m', PQ (w.setCell ⟨x.g, 1, none⟩ (.bool true)) m' (S.drainS k) ∧ Step w (w.setCell ⟨x.g, 1, none⟩ (.bool true)) m m' := by
      have o : Only x.foot w (w.setCell ⟨x.g, 1, none⟩ (.bool true)) := (Only.refl _ _).setCell (.inl (show x.g ∈ x.foot from List.mem_cons_self)) _
      refine ⟨_, h.updLane (x' := { x with L := { x.L with drains := true } }) (g := fun L => { L with drains := true }) hx hxk rfl ⟨?_, ?_⟩ o (fun j hj => .inl hj) rfl⟩
      · have := heap_setCell_same (o := 1) hat.obj (.bool true)
        simpa using this
      · exact hat.row.kept (fun j hj => heap_setCell_ne (fun e => hat.ne (by rw [← e]; exact hj)) _)
    have HF := Lib.hid hfin
    rw [he, if_pos rfl]
    clear h hx he hat hin hxk hfin
    go_enter Try.func16, Try.ntmps16
    go_wp2
    go_ret
    exact ⟨rfl, HF.out⟩

theorem sub_flatMap {α β : Type} (f : α → List β) {a b : List α} (h : a.Sublist b) : (a.flatMap f).Sublist (b.flatMap f) := by
  induction h with
  | slnil => exact List.Sublist.refl _
  | cons x _ ih => rw [List.flatMap_cons]; exact ih.trans (List.sublist_append_right _ _)
  | cons_cons x _ ih => rw [List.flatMap_cons, List.flatMap_cons]; exact (List.Sublist.refl _).append ih
theorem strike_map {β : Type} (M : List LM) (f : LM → β) (k : Int) : strike (M.map fun x => (x.k, f x)) k = (M.filter fun x => x.k != k).map fun x => (x.k, f x) := by
  unfold strike
  rw [List.filter_map]
  rfl
theorem PQ.dropLane {w w' : World} {m : Mem} {S : Q} (h : PQ w m S) (k : Int) (hm : HasMap Try.prog 3 ptrV w' m.bl (strike m.ptrs k)) (ht : w.mapTurned w' m.bl) :
    PQ w' { m with M := m.M.filter fun x => x.k != k } { S with lanes := strike S.lanes k } ∧ Step w w' m { m with M := m.M.filter fun x => x.k != k } := by
  have o := only_turned ht
  have hsep := h.sep
  have hsub : ({ m with M := m.M.filter fun x => x.k != k } : Mem).foot.Sublist m.foot := by
    rw [Mem.foot_eq, Mem.foot_eq]
    exact (List.Sublist.refl _).append (sub_flatMap LM.foot List.filter_sublist)
  unfold Mem.foot at hsep
  rw [List.nodup_cons, List.nodup_cons, List.nodup_cons] at hsep
  obtain ⟨s1, s2, s3, s4⟩ := hsep
  have hp : m.p ∉ [m.bl] := by simp; intro e; rw [e] at s1; simp at s1
  have hbo : m.bo ∉ [m.bl] := by simp; intro e; rw [e] at s2; simp at s2
  refine ⟨⟨o.at h.obj hp, h.packs.only o (fun j hj => ?_), h.opn.same (o.block _ h.opn.lt hbo), ?_, fun x hx => ?_, ?_, h.sep.sublist hsub⟩, rfl, o.mono (fun j hj => by rw [List.mem_singleton.1 hj]; exact m.bl_in), fun j hj => .inl (hsub.subset hj)⟩
  · simp
    intro e
    exact s3 (List.mem_append_left _ (blk_mem.2 (by rw [hj, e])))
  · have : ({ m with M := m.M.filter fun x => x.k != k } : Mem).ptrs = strike m.ptrs k := (strike_map m.M _ k).symm
    rw [this]
    exact hm
  · have hx' := (List.mem_filter.1 hx).1
    refine (h.at_ x hx').only o (fun j hj => ?_)
    simp
    intro e
    exact s3 (List.mem_append_right _ (List.mem_flatMap.2 ⟨x, hx', by rw [← e]; exact hj⟩))
  · show strike S.lanes k = _
    rw [h.same, strike_map]

set_option maxHeartbeats 800000 in
theorem drop_any (m : Mem) (S : Q) (k : Int) (w : World) (h : PQ w m S) (k0 : -9223372036854775808 ≤ k) (k1 : k ≤ 9223372036854775807) :
    Calls Try.prog 15 #[.pointer (some ⟨m.p, 0, none⟩), .int .i64 k] w fun e w' => e = .returned (.int .i64 (S.dropE k)) ∧ ∃ m', PQ w' m' (S.dropS k) ∧ Step w w' m m' := by
  have c6 := h.c6
  cases hx : m.at_ k with
  | none =>
    have l1 := h.laneNone k k0 k1 hx
    have he : S.dropE k = 2002 := by unfold Q.dropE; rw [h.lane, hx]; rfl
    have hs : S.dropS k = S := by unfold Q.dropS; rw [if_neg (by rw [he]; decide)]
    have HF := Lib.hid (And.intro h (Step.refl w m))
    rw [he, hs]
    clear h hx he hs
    go_enter Try.func15, Try.ntmps15
    go_wp2
    go_ret
    exact ⟨rfl, m, HF.out⟩
  | some x =>
    have l1 := h.laneSome k k0 k1 hx
    have hat := h.at_ x (Mem.at_in hx).1
    have g0 := hat.c0
    by_cases hw : x.L.waits = []
    · have he : S.dropE k = 0 := by unfold Q.dropE; rw [h.lane, hx]; simp [hw]
      have hs : S.dropS k = { S with lanes := strike S.lanes k } := by unfold Q.dropS; rw [if_pos he]
      have hl0 : x.L.waits.length = 0 := by rw [hw]; rfl
      rw [hl0] at g0
      have hlk := h.lanes
      have hwf := wf_int k0 k1
      have HF := Lib.hid (fun w' a b => h.dropLane (w' := w') k a b)
      rw [he, hs]
      clear h hx he hs hat hw hl0
      go_enter Try.func15, Try.ntmps15
      go_wp2_with ((at_delete; refine wpList_dropL _ rfl _ _ 46 3 rfl 49 keyed Try.underlying3 Try.underlying46 ptrV m.bl m.ptrs rfl hlk _ rfl hwf ?_; intro w1 hm1 ht1))
      go_ret
      exact ⟨rfl, _, HF.out _ ‹_› ‹_›⟩
    · have he : S.dropE k = 2003 := by unfold Q.dropE; rw [h.lane, hx]; simp [hw]
      have hs : S.dropS k = S := by unfold Q.dropS; rw [if_neg (by rw [he]; decide)]
      have HF := Lib.hid (And.intro h (Step.refl w m))
      have hl0 : 0 < x.L.waits.length := List.length_pos_iff.2 hw
      have d0 : decide (0 < x.L.waits.length) = true := by simpa using hl0
      rw [he, hs]
      clear h hx he hs hat hw
      go_enter Try.func15, Try.ntmps15
      go_wp2
      go_ret
      exact ⟨rfl, m, HF.out⟩

theorem PQ.addLane {w w' : World} {m : Mem} {S : Q} (h : PQ w m S) (k : Int) (hn : m.at_ k = none) (hm : HasMap Try.prog 3 ptrV w' m.bl (putL m.ptrs k (some w.heap.size))) (ht : (w.alloc (.cells #[.slice none 0 0, .bool false] 52)).mapTurned w' m.bl) :
    PQ w' { m with M := m.M ++ [⟨k, w.heap.size, none, 0, ⟨[], false⟩⟩] } { S with lanes := S.lanes ++ [(k, ⟨[], false⟩)] } ∧ Step w w' m { m with M := m.M ++ [⟨k, w.heap.size, none, 0, ⟨[], false⟩⟩] } := by
  have o1 : Only [] w (w.alloc (.cells #[.slice none 0 0, .bool false] 52)) := (Only.refl _ _).alloc _
  have o2 := only_turned ht
  have hg := heap_alloc_new' w (.cells #[.slice none 0 0, .bool false] 52)
  have hlt := h.lt
  have hsep := h.sep
  have hfoot : ({ m with M := m.M ++ [⟨k, w.heap.size, none, 0, ⟨[], false⟩⟩] } : Mem).foot = m.foot ++ [w.heap.size] := by
    rw [Mem.foot_eq, Mem.foot_eq, List.flatMap_append]
    simp [LM.foot, blk, Mem.base]
  have hsep' := hsep
  unfold Mem.foot at hsep
  rw [List.nodup_cons, List.nodup_cons, List.nodup_cons] at hsep
  obtain ⟨s1, s2, s3, s4⟩ := hsep
  have hp : m.p ∉ [m.bl] := by simp; intro e; rw [e] at s1; simp at s1
  have hbo : m.bo ∉ [m.bl] := by simp; intro e; rw [e] at s2; simp at s2
  have q : PQ (w.alloc (.cells #[.slice none 0 0, .bool false] 52)) m S := h.quiet o1
  refine ⟨⟨o2.at q.obj hp, q.packs.only o2 (fun j hj => ?_), q.opn.same (o2.block _ q.opn.lt hbo), ?_, fun x hx => ?_, ?_, ?_⟩, rfl, (o1.mono (by simp)).trans (o2.mono (fun j hj => by rw [List.mem_singleton.1 hj]; exact m.bl_in)), fun j hj => ?_⟩
  · simp
    intro e
    exact s3 (List.mem_append_left _ (blk_mem.2 (by rw [hj, e])))
  · have e : putL m.ptrs k (some w.heap.size) = ({ m with M := m.M ++ [⟨k, w.heap.size, none, 0, ⟨[], false⟩⟩] } : Mem).ptrs := by
      unfold putL
      rw [m.ptr, hn]
      unfold Mem.ptrs
      simp
    rw [← e]
    exact hm
  · rcases List.mem_append.1 hx with hx | hx
    · refine (q.at_ x hx).only o2 (fun j hj => ?_)
      simp
      intro e
      exact s3 (List.mem_append_right _ (List.mem_flatMap.2 ⟨x, hx, by rw [← e]; exact hj⟩))
    · have : x = ⟨k, w.heap.size, none, 0, ⟨[], false⟩⟩ := by simpa using hx
      subst this
      refine ⟨o2.at hg ?_, Sl.nil _ _ _⟩
      have := hlt m.bl m.bl_in
      simp
      omega
  · show S.lanes ++ _ = _
    rw [h.same, List.map_append]
    rfl
  · rw [hfoot, List.nodup_append]
    refine ⟨hsep', by simp, fun a ha b hb e => ?_⟩
    have := hlt a ha
    simp at hb
    omega
  · rw [hfoot] at hj
    rcases List.mem_append.1 hj with hj | hj
    · exact .inl hj
    · right
      have : j = w.heap.size := by simpa using hj
      omega

set_option maxHeartbeats 800000 in
theorem add_any (m : Mem) (S : Q) (k : Int) (w : World) (h : PQ w m S) (hok : S.Ok) (k0 : -9223372036854775808 ≤ k) (k1 : k ≤ 9223372036854775807) :
    Calls Try.prog 9 #[.pointer (some ⟨m.p, 0, none⟩), .int .i64 k] w fun e w' => e = .returned (.int .i64 (S.addE k)) ∧ ∃ m', PQ w' m' (S.addS k) ∧ Step w w' m m' := by
  have c6 := h.c6
  have k2 := h.lanesLen 3
  have hlen := hok.lanes8
  by_cases h1 : k < 0
  · have d1 : decide (k < 0) = true := by simpa using h1
    have he : S.addE k = 2000 := by unfold Q.addE; rw [if_pos (.inl h1)]
    have hs : S.addS k = S := by unfold Q.addS; rw [if_neg (by rw [he]; decide)]
    have HF := Lib.hid (And.intro h (Step.refl w m))
    rw [he, hs]
    clear h he hs
    go_enter Try.func9, Try.ntmps9
    go_wp2
    go_ret
    exact ⟨rfl, m, HF.out⟩
  have d1 : decide (k < 0) = false := by simpa using h1
  cases hx : m.at_ k with
  | some x =>
    have l1 := h.laneSome k k0 k1 hx
    have he : S.addE k = 2000 := by unfold Q.addE; rw [if_pos (.inr (by rw [h.lane, hx]; rfl))]
    have hs : S.addS k = S := by unfold Q.addS; rw [if_neg (by rw [he]; decide)]
    have HF := Lib.hid (And.intro h (Step.refl w m))
    rw [he, hs]
    clear h he hs hx
    go_enter Try.func9, Try.ntmps9
    go_wp2
    go_ret
    exact ⟨rfl, m, HF.out⟩
  | none =>
    have l1 := h.laneNone k k0 k1 hx
    have hln : (S.lane k).isSome = false := by rw [h.lane, hx]; rfl
    by_cases h3 : 8 ≤ S.lanes.length
    · have he : S.addE k = 2001 := by unfold Q.addE; rw [if_neg (by rw [hln]; simp [h1]), if_pos h3]
      have hs : S.addS k = S := by unfold Q.addS; rw [if_neg (by rw [he]; decide)]
      have d3 : decide (8 ≤ (S.lanes.length : Int)) = true := by simp; omega
      have HF := Lib.hid (And.intro h (Step.refl w m))
      rw [he, hs]
      clear h he hs hx hln
      go_enter Try.func9, Try.ntmps9
      go_wp2
      go_ret
      exact ⟨rfl, m, HF.out⟩
    · have he : S.addE k = 0 := by unfold Q.addE; rw [if_neg (by rw [hln]; simp [h1]), if_neg h3]
      have hs : S.addS k = { S with lanes := S.lanes ++ [(k, ⟨[], false⟩)] } := by unfold Q.addS; rw [if_pos he]
      have d3 : decide (8 ≤ (S.lanes.length : Int)) = false := by simp; omega
      have hwf := wf_int k0 k1
      have hpl : m.ptrs.length ≤ 8 := by have := congrArg List.length h.same; rw [List.length_map] at this; unfold Mem.ptrs; rw [List.length_map]; omega
      have HL := Lib.hid (h.quiet ((Only.refl [] w).alloc (.cells #[.slice none 0 0, .bool false] 52))).lanes
      have HF := Lib.hid (fun w' a b => h.addLane (w' := w') k hx a b)
      rw [he, hs]
      clear h he hs hx hln
      go_enter Try.func9, Try.ntmps9
      go_wp2_with ((at_mapUpdate; refine wpList_storeL _ rfl _ _ _ 46 rfl 3 49 keyed Try.underlying3 Try.underlying46 ptrV m.bl m.ptrs rfl HL.out (by unfold maxLen; omega) _ (some w.heap.size) rfl rfl hwf ?_; intro w1 hm1 ht1))
      go_ret
      exact ⟨rfl, _, HF.out _ ‹_› ‹_›⟩
end Go.Proofs.Ytjcndeanojeffaa

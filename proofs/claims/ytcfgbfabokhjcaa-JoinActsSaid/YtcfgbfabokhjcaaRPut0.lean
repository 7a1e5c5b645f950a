/- Chapter 19: small laws that the document's Put needs. -/
import Derived.Test.YtcfgbfabokhjcaaRAdd2
namespace Go.Proofs.Ytcfgbfabokhjcaa
open Go.RowKit
open Plain

theorem sl_set {w : World} {e size g off n cap : Nat} {xs : List Value} (h : Sl w e size (some ⟨g, off, none⟩) n cap xs) (j : Nat) (v : Value) : Sl (w.setCell ⟨g, off + j, none⟩ v) e size (some ⟨g, off, none⟩) n cap (xs.set j v) := by
  refine ⟨by rw [List.length_set]; exact h.1, h.2.1, h.2.2.1, .inr ?_⟩
  rcases h.2.2.2 with ⟨h1, _⟩ | ⟨g', off', cur, h1, hg, hcs, htake⟩
  · cases h1
  · cases h1
    refine ⟨g, off, cur.setIfInBounds (off + j) v, rfl, heap_setCell_same hg v, by simpa using hcs, ?_⟩
    rw [Array.toList_setIfInBounds, List.drop_set, if_neg (by omega), List.take_set, htake]
    congr 1
    omega
theorem flatL_set : ∀ (l : List (Int × Int)) (k : Nat) (hk : k < l.length) (x : Int), (flatL l).set (k * 2 + 1) (.int .i64 x) = flatL (l.set k (l[k].1, x))
  | (a, b) :: l, 0, _, x => rfl
  | p :: l, k + 1, hk, x => by
    have hk' : k < l.length := by simpa using hk
    have ih := flatL_set l k hk' x
    have e : (k + 1) * 2 + 1 = (k * 2 + 1) + 1 + 1 := by omega
    show (Value.int .i64 p.1 :: Value.int .i64 p.2 :: flatL l).set ((k + 1) * 2 + 1) _ = Value.int .i64 p.1 :: Value.int .i64 p.2 :: flatL (l.set k (l[k].1, x))
    rw [e, List.set_cons_succ, List.set_cons_succ, ih]
theorem RJ.setLink {w : World} {r : Nat} {gb go cl : Nat} {ah : Option Addr} {ch : Nat} {S : J} (h : RJ w ⟨r, some ⟨gb, go, none⟩, cl, ah, ch⟩ S) {k : Nat} (hk : k < S.links.length) {link : Int} (hq : S.links[k].1 = link) {f : Fr} (hf : mayF S.short f = true) :
    RJ (w.setCell ⟨gb, go + k * 2 + 1, none⟩ (.int .i64 f.q)) ⟨r, some ⟨gb, go, none⟩, cl, ah, ch⟩ (S.upd link f) ∧ RStep w (w.setCell ⟨gb, go + k * 2 + 1, none⟩ (.int .i64 f.q)) ⟨r, some ⟨gb, go, none⟩, cl, ah, ch⟩ ⟨r, some ⟨gb, go, none⟩, cl, ah, ch⟩ := by
  have o : Only [gb] w (w.setCell ⟨gb, go + k * 2 + 1, none⟩ (.int .i64 f.q)) := (Only.refl _ _).setCell (.inl (by simp)) _
  have hne : r ≠ gb := fun e => h.na (by rw [e]; rfl)
  have hlen : (S.upd link f).links.length = S.links.length := by show (updI S.links link f.q).length = _; unfold updI; rw [List.length_map]
  have hs := sl_set (h.links : Sl w 75 2 (some ⟨gb, go, none⟩) S.links.length cl (flatL S.links)) (k * 2 + 1) (.int .i64 f.q)
  rw [flatL_set S.links k hk, hq, upd_set h.ok hk hq] at hs
  refine ⟨⟨?_, ?_, h.held.only o (fun j hj hm => ?_), h.na, h.nh, h.ne, upd_ok h.ok link hf⟩, rfl, o.mono (fun j hj => by rw [List.mem_singleton.1 hj]; exact RM.in_al rfl), fun _ hj => .inl hj⟩
  · rw [hlen]
    exact o.at h.obj (by simpa using hne)
  · rw [hlen]
    exact hs
  · have : j = gb := by simpa using hm
    subst this
    exact h.ne j rfl hj
theorem least_pos {S : J} (h : S.Ok) {q : Int} (_q0 : 0 ≤ q) (_q1 : q < S.R) (hl : off S.R S.next q = S.least) : (q + 1) % S.R = pos S.R S.next (S.least + 1) := by
  rw [← hl]
  unfold pos off
  rcases h.isRing with e | e <;> rw [e] at * <;> omega

/-- what the document's Put gives. -/
def RPutPost (m : RM) (S : J) (link : Int) (f : Fr) (w : World) (e : Ending) (w' : World) : Prop :=
  ∃ m' ao cap, e = .returned (.tuple #[.slice ao (putO S link f).length cap, .int .i64 (putE S link f)]) ∧ Sl w' 9 1 ao (putO S link f).length cap ((putO S link f).map Value.string) ∧ RJ w' m' (putS S link f) ∧ RStep w w' m m'
theorem RPutPost.bad {m : RM} {S : J} {link : Int} {f : Fr} {w w' : World} {c : Int} (he : putE S link f = c) (hc : c ≠ 0) (h : RJ w' m S) (o : Only [] w w') : RPutPost m S link f w (.returned (.tuple #[.slice none 0 0, .int .i64 c])) w' := by
  have e1 : putO S link f = [] := by unfold putO; rw [if_neg (by rw [he]; exact hc)]
  have e2 : putS S link f = S := by unfold putS; rw [if_neg (by rw [he]; exact hc)]
  unfold RPutPost
  rw [e1, e2, he]
  exact ⟨m, none, 0, rfl, Sl.nil _ _ _, h, RStep.quiet o⟩

/-- where the loop of Put stands. -/
structure RLoop (m : RM) (S1 : J) (w wr : World) (m' : RM) (T : J) (ao : Option Addr) (cap : Nat) (outs : List ByteArray) : Prop where
  rj : RJ wr m' T
  st : RStep w wr m m'
  out : Sl wr 9 1 ao outs.length cap (outs.map Value.string)
  bl : ∀ j, blk ao = some j → j ∉ m'.foot ∧ w.heap.size ≤ j
  run : S1.run = (T.run.1, outs ++ T.run.2)
  few : outs.length + T.held.length ≤ S1.held.length
theorem RLoop.turn {m : RM} {S1 : J} {w wr w' : World} {m' m2 : RM} {T T' : J} {ao : Option Addr} {cap : Nat} {outs : List ByteArray} (h : RLoop m S1 w wr m' T ao cap outs) (hj : RJ w' m2 T') (hs : RStep wr w' m' m2) (hr : T.run = T'.run) (hf : T'.held.length ≤ T.held.length) : RLoop m S1 w w' m2 T' ao cap outs := by
  refine ⟨hj, h.st.trans hs, h.out.only hs.only (fun j hj => (h.bl j hj).1), fun j hj => ⟨fun hm => ?_, (h.bl j hj).2⟩, by rw [← hr]; exact h.run, by have := h.few; omega⟩
  rcases hs.foot j hm with e | e
  · exact (h.bl j hj).1 e
  · have := h.out.lt hj
    omega
/-- a step that goes on, and the append of what it told. -/
theorem RLoop.told {m : RM} {S1 : J} {w wr w1 w2 : World} {m' m2 : RM} {T T' : J} {o : Option ByteArray} {ao ao' : Option Addr} {cap cap' : Nat} {outs : List ByteArray} (h : RLoop m S1 w wr m' T ao cap outs) (hs : T.step = some (T', o)) (hj : RJ w1 m2 T') (hst : RStep wr w1 m' m2)
    (hap : Sl w2 9 1 ao' (outs.length + o.toList.length) cap' (outs.map Value.string ++ o.toList.map Value.string)) (hg : w1.grownBy w2 (blk ao)) (hb : blk ao' = blk ao ∨ blk ao' = some w1.heap.size) : RLoop m S1 w w2 m2 T' ao' cap' (outs ++ o.toList) ∧ T'.mu < T.mu := by
  have hok := h.rj.ok
  obtain ⟨k1, k2, k3, k4, k5, k6, k7⟩ := step_down hok hs
  have hbl : ∀ j, blk ao = some j → j ∉ m2.foot ∧ w.heap.size ≤ j := fun j hj => ⟨fun hm => by
    rcases hst.foot j hm with e | e
    · exact (h.bl j hj).1 e
    · have := h.out.lt hj
      omega, (h.bl j hj).2⟩
  have o2 : Only (blk ao).toList w1 w2 := Only.of_grown hg (fun j hj => by rw [hj]; simp)
  have hj2 : RJ w2 m2 T' := hj.only o2 (fun j hj2 hm => (hbl j (by simpa using hm)).1 hj2)
  have hsz : w.heap.size ≤ w1.heap.size := (h.st.trans hst).only.size
  refine ⟨⟨hj2, ?_, by rw [List.length_append, List.map_append]; exact hap, fun j hj3 => ?_, ?_, ?_⟩, k2⟩
  · have hs1 := h.st.trans hst
    refine ⟨hs1.r, hs1.only.trans' o2 (fun x hx => .inr (hbl x (by simpa using hx)).2), fun j hj3 => hs1.foot j hj3⟩
  · rcases hb with e | e
    · exact hbl j (e.symm.trans hj3)
    · rw [e] at hj3
      simp at hj3
      subst hj3
      exact ⟨fun hm => by have := hj.lt hm; omega, hsz⟩
  · rw [h.run, run_step hok hs, List.append_assoc]
  · rw [List.length_append]
    have := h.few
    have : o.toList.length = if o.isSome = true then 1 else 0 := by cases o <;> rfl
    omega
end Go.Proofs.Ytcfgbfabokhjcaa

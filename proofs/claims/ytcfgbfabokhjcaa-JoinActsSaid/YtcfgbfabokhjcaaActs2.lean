/- Chapter 19: the program's reassembly and the document's, side by side. -/
import Derived.Test.YtcfgbfabokhjcaaActs
namespace Go.Proofs.Ytcfgbfabokhjcaa
namespace Plain
open Go
theorem addS_keep (S : J) (q : Int) : (addS S q).held = S.held ∧ (addS S q).lost = S.lost ∧ (addS S q).most = S.most := by
  unfold addS
  split <;> exact ⟨rfl, rfl, rfl⟩
theorem dropS_keep (S : J) (q : Int) : (dropS S q).held = S.held ∧ (dropS S q).lost = S.lost ∧ (dropS S q).most = S.most := by
  unfold dropS
  split <;> exact ⟨rfl, rfl, rfl⟩
theorem Twin.same {S T : J} (h : Twin S T) : T.held = S.held ∧ T.lost = S.lost := by
  obtain ⟨L, _, rfl⟩ := h
  exact ⟨rfl, rfl⟩
end Plain
open Go.RowKit
open Plain
structure Both (w : World) (p bl bh r n : Nat) (S T : J) (m : RM) (wr : World) : Prop where
  pj : PJ wr p bl bh S
  rj : RJ wr m T
  hr : m.r = r
  tw : Plain.Twin S T
  few : (S.held.length : Int) ≤ S.most
  sum : S.lost + S.held.length ≤ n
  old : w.heap.size ≤ p ∧ w.heap.size ≤ bl ∧ w.heap.size ≤ bh
  foot : ∀ k ∈ m.foot, w.heap.size ≤ k ∧ k ≠ p ∧ k ≠ bl ∧ k ≠ bh
  below : Below w.heap.size w wr
section
variable {w : World} {p bl bh r n : Nat} {S T : J} {m : RM} {wr : World}
theorem Both.quiet {w' : World} (h : Both w p bl bh r n S T m wr) (o : Only [] wr w') : Both w p bl bh r n S T m w' :=
  ⟨h.pj.only o (by simp) (by simp) (by simp), h.rj.quiet o, h.hr, h.tw, h.few, h.sum, h.old, h.foot, h.below.trans (o.below _ h.below.size (by simp))⟩
theorem Both.prog {w1 : World} {S' : J} (h : Both w p bl bh r n S T m wr) (_h1 : PJ w1 p bl bh S') (o1 : Only [p, bl, bh] wr w1) : RJ w1 m T := h.rj.only o1 (fun k hk => by have := h.foot k hk; simp; omega)
theorem Both.next {w1 w2 : World} {S' T' : J} {m2 : RM} (h : Both w p bl bh r n S T m wr) (h1 : PJ w1 p bl bh S') (o1 : Only [p, bl, bh] wr w1) (h2 : RJ w2 m2 T') (s2 : RStep w1 w2 m m2) (tw : Plain.Twin S' T') (few : (S'.held.length : Int) ≤ S'.most) (sum : S'.lost + S'.held.length ≤ S.lost + S.held.length + 1) : Both w p bl bh r (n + 1) S' T' m2 w2 := by
  have hl := h1.lt
  have hb := h.below.trans (o1.below _ h.below.size (by have := h.old; simp; omega))
  have hsz : w.heap.size ≤ w1.heap.size := hb.size
  have hno : p ∉ m.foot ∧ bl ∉ m.foot ∧ bh ∉ m.foot := ⟨fun c => (h.foot _ c).2.1 rfl, fun c => (h.foot _ c).2.2.1 rfl, fun c => (h.foot _ c).2.2.2 rfl⟩
  refine ⟨h1.only s2.only hno.1 hno.2.1 hno.2.2, h2, s2.r.trans h.hr, tw, few, ?_, h.old, fun k hk => ?_, hb.trans (s2.only.below _ hsz (fun k hk => (h.foot k hk).1))⟩
  · have := h.sum
    omega
  · rcases s2.foot k hk with e | e
    · exact h.foot k e
    · exact ⟨by omega, by omega, by omega, by omega⟩
theorem Both.put {w1 w2 : World} {m2 : RM} (h : Both w p bl bh r n S T m wr) (hn : n ≤ 1000) (link : Int) (f : Fr) (h1 : PJ w1 p bl bh (putS S link f)) (o1 : Only [p, bl, bh] wr w1) (h2 : RJ w2 m2 (putS T link f)) (s2 : RStep w1 w2 m m2) : Both w p bl bh r (n + 1) (putS S link f) (putS T link f) m2 w2 := by
  have hm := h.pj.ok.most1
  have hf := h.few
  have hs := h.sum
  have hk := put_k h.pj.ok h.few link f (by omega)
  exact h.next h1 o1 h2 s2 (h.tw.put h.pj.ok (by omega) (by omega) link f).2.2 hk.few hk.sum
theorem Both.drop {w1 w2 : World} {m2 : RM} (h : Both w p bl bh r n S T m wr) (link : Int) (h1 : PJ w1 p bl bh (dropS S link)) (o1 : Only [p, bl, bh] wr w1) (h2 : RJ w2 m2 (dropS T link)) (s2 : RStep w1 w2 m m2) : Both w p bl bh r (n + 1) (dropS S link) (dropS T link) m2 w2 := by
  obtain ⟨e1, e2, e3⟩ := dropS_keep S link
  exact h.next h1 o1 h2 s2 (h.tw.drop link).2 (by rw [e1, e3]; exact h.few) (by rw [e1, e2]; omega)
theorem Both.add {w1 w2 : World} {m2 : RM} {L : List (Int × Int)} (h : Both w p bl bh r n S T m wr) (link : Int) (h1 : PJ w1 p bl bh (addS S link)) (o1 : Only [p, bl, bh] wr w1) (hL0 : addE S link ≠ 0 → L = T.links) (hL1 : addE S link = 0 → L.Perm (T.links ++ [(link, -1)])) (h2 : RJ w2 m2 { T with links := L }) (s2 : RStep w1 w2 m m2) : Both w p bl bh r (n + 1) (addS S link) { T with links := L } m2 w2 := by
  obtain ⟨e1, e2, e3⟩ := addS_keep S link
  refine h.next h1 o1 h2 s2 ?_ (by rw [e1, e3]; exact h.few) (by rw [e1, e2]; omega)
  by_cases c : addE S link = 0
  · exact (h.tw.add link).2 L c (hL1 c)
  · rw [hL0 c]
    have : addS S link = S := by unfold addS; rw [if_neg c]
    rw [this]
    exact h.tw
end
theorem held_still (p bl bh : Nat) (S : J) (w : World) (h : PJ w p bl bh S) : Calls Try.prog 23 #[.pointer (some ⟨p, 0, none⟩)] w fun e w' => e = .returned (.int .i64 S.held.length) ∧ w' = w := (held_any p bl bh S w h).mono fun _ _ ⟨a, b⟩ => ⟨a, b.symm⟩
theorem lost_still (p bl bh : Nat) (S : J) (w : World) (h : PJ w p bl bh S) : Calls Try.prog 25 #[.pointer (some ⟨p, 0, none⟩)] w fun e w' => e = .returned (.int .i64 S.lost) ∧ w' = w := (lost_any p bl bh S w h).mono fun _ _ ⟨a, b⟩ => ⟨a, b.symm⟩
theorem rheld_still (m : RM) (S : J) (w : World) (h : RJ w m S) : Calls Try.prog 24 #[.pointer (some ⟨m.r, 0, none⟩)] w fun e w' => e = .returned (.int .i64 S.held.length) ∧ w' = w := (rheld_any m S w h).mono fun _ _ ⟨a, b⟩ => ⟨a, b.symm⟩
end Go.Proofs.Ytcfgbfabokhjcaa

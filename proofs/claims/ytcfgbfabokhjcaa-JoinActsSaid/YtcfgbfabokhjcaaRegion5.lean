/- Regions that draw their order, fourth part: a part of the order, then one of two that may come up. Over any program. -/
import Derived.Test.YtcfgbfabokhjcaaRegion4
namespace Go.Proofs.Ytcfgbfabokhjcaa

section
variable {P : Program} {ops : Array Oper} {md : Region.Mode} {S : World → Prop} {Q : Exit → Act → World → Prop}

def Region.mixOk (md : Region.Mode) (ops : Array Oper) : List (Nat × Bool) → Array Bool → Bool
  | [], _ => true
  | (i, fr) :: rest, listed => (if fr then (Region.ready md ops listed).contains i && Region.free md ops listed i else decide (Region.ready md ops listed = [i])) && Region.mixOk md ops rest (listed.setIfInBounds i true)
def Region.mixEnd : List (Nat × Bool) → Array Bool → Array Bool
  | [], listed => listed
  | (i, _) :: rest, listed => Region.mixEnd rest (listed.setIfInBounds i true)

def wpMixR (P : Program) (ops : Array Oper) (Q : Exit → Act → World → Prop) (S : World → Prop) (R : Act → World → Prop) : List (Oper × Bool) → Act → World → Prop
  | [], a, w => R a w
  | (o, true) :: r, a, w => ∃ v, YieldsIf P ops S o v a ∧ wpMixR P ops Q S R r (a.put o.dst v) w
  | (o, false) :: r, a, w => if Region.wanted o (yielded ops a.tmps) = true then o.wp P a w (fun a' w' => S w' ∧ wpMixR P ops Q S R r a' w') Q else S w ∧ wpMixR P ops Q S R r (a.put o.dst undef) w

theorem wpAnyH_of_mixR {k : Nat} (hsel : Region.noSelect ops = true) (hQ : ∀ d v c a w, Q (.panic c) (Act.put a d v) w → Q (.panic c) a w) :
    ∀ (σ : List (Nat × Bool)) (listed : Array Bool) (a : Act) (w : World), Region.mixOk md ops σ listed = true → S w →
      wpMixR P ops Q S (fun a w => S w → wpAnyH P md ops Q S k (Region.mixEnd σ listed) a w) (mixOps ops σ) a w → wpAnyH P md ops Q S (σ.length + k) listed a w
  | [], listed, a, w, _, hS, h => by rw [List.length_nil, Nat.zero_add]; exact h hS
  | (i, true) :: σ, listed, a, w, hB, hS, h => by
    simp only [Region.mixOk, Bool.and_eq_true, if_true] at hB
    obtain ⟨⟨hr, hf⟩, hB'⟩ := hB
    have hr' : i ∈ Region.ready md ops listed := by simpa using hr
    obtain ⟨_, o, ho, _⟩ := mem_ready.1 hr'
    simp only [mixOps, List.filterMap_cons, ho, Option.map_some, wpMixR] at h
    obtain ⟨v, hy, h⟩ := h
    rw [List.length_cons, show σ.length + 1 + k = (σ.length + k) + 1 by omega]
    exact wpAnyH_take ho hsel hf hr (fun c a w hh => hQ _ _ c a w hh) hy hS (wpAnyH_of_mixR hsel hQ σ _ _ w hB' hS h)
  | (i, false) :: σ, listed, a, w, hB, hS, h => by
    simp only [Region.mixOk, Bool.and_eq_true, Bool.false_eq_true, if_false, decide_eq_true_eq] at hB
    obtain ⟨hr, hB'⟩ := hB
    have hr' : i ∈ Region.ready md ops listed := by rw [hr]; simp
    obtain ⟨_, o, ho, _⟩ := mem_ready.1 hr'
    simp only [mixOps, List.filterMap_cons, ho, Option.map_some, wpMixR] at h
    rw [List.length_cons, show σ.length + 1 + k = (σ.length + k) + 1 by omega]
    refine ⟨fun h0 => (by rw [hr] at h0; cases h0), fun j hj => ?_⟩
    rw [hr] at hj
    have : j = i := by simpa using hj
    subst this
    unfold wpOp
    simp only [ho]
    split
    · rename_i hw
      rw [if_pos hw] at h
      exact .inl (Oper.wp_mono (fun a' w' h' => ⟨h'.1, wpAnyH_of_mixR hsel hQ σ _ a' w' hB' h'.1 h'.2⟩) h)
    · rename_i hw
      rw [if_neg hw] at h
      exact ⟨h.1, wpAnyH_of_mixR hsel hQ σ _ _ w hB' h.1 h.2⟩

variable {o : Oper} {r : List (Oper × Bool)} {a : Act} {w : World} {R : Act → World → Prop}
theorem mixR_nil (h : R a w) : wpMixR P ops Q S R [] a w := h
theorem mixR_op (hw : Region.wanted o (yielded ops a.tmps) = true) (h : ∀ K : Act → World → Prop, (∀ a' w', S w' → wpMixR P ops Q S R r a' w' → K a' w') → o.wp P a w K Q) : wpMixR P ops Q S R ((o, false) :: r) a w := by
  unfold wpMixR
  rw [if_pos hw]
  exact h _ fun a' w' h1 h2 => ⟨h1, h2⟩
theorem mixR_free (hw : Region.wanted o (yielded ops a.tmps) = true) {v : Value} (hv : ∀ w, S w → (execOp a.eval o).run P w = .ok (.value v) w) (h : wpMixR P ops Q S R r (a.put o.dst v) w) : wpMixR P ops Q S R ((o, true) :: r) a w :=
  ⟨v, .inl ⟨hw, hv⟩, h⟩
theorem mixR_move {dst : Option Tmp} {x : Operand} {ty : TypeId} {pos : String} {after : Array Edge} {g : Option (Nat × Bool)}
    (hw : Region.wanted { dst := dst, op := .move x, type := ty, pos := pos, after := after, guard := g } (yielded ops a.tmps) = true)
    (h : wpMixR P ops Q S R r (a.put dst (a.eval x)) w) : wpMixR P ops Q S R (({ dst := dst, op := .move x, type := ty, pos := pos, after := after, guard := g }, true) :: r) a w :=
  ⟨_, .inl ⟨hw, fun w _ => by simp [execOp]⟩, h⟩

/-- either of two comes up. -/
theorem anyH_two {k : Nat} {listed : Array Bool} (i j : Nat) (oi oj : Oper) (hr : Region.ready md ops listed = [i, j]) (hi : ops[i]? = some oi) (hj : ops[j]? = some oj)
    (hwi : Region.wanted oi (yielded ops a.tmps) = true) (hwj : Region.wanted oj (yielded ops a.tmps) = true)
    (h1 : ∀ K : Act → World → Prop, (∀ a' w', S w' → wpAnyH P md ops Q S k (listed.setIfInBounds i true) a' w' → K a' w') → oi.wp P a w K Q)
    (h2 : ∀ K : Act → World → Prop, (∀ a' w', S w' → wpAnyH P md ops Q S k (listed.setIfInBounds j true) a' w' → K a' w') → oj.wp P a w K Q) :
    wpAnyH P md ops Q S (k + 1) listed a w := by
  refine ⟨fun h0 => (by rw [hr] at h0; cases h0), fun x hx => ?_⟩
  rw [hr] at hx
  rcases List.mem_cons.1 hx with rfl | hx
  · unfold wpOp
    simp only [hi, hwi, if_true]
    exact .inl (h1 _ fun a' w' h1 h2 => ⟨h1, h2⟩)
  · have : x = j := by simpa using hx
    subst this
    unfold wpOp
    simp only [hj, hwj, if_true]
    exact .inl (h2 _ fun a' w' h1 h2 => ⟨h1, h2⟩)

/-- from here on one order, to the end. -/
theorem anyH_mix {k : Nat} {listed : Array Bool} (σ : List (Nat × Bool)) (hsel : Region.noSelect ops = true) (hB : (decide (σ.length = k) && Region.mixSeq md ops σ listed) = true)
    (hQ : ∀ d v c a w, Q (.panic c) (Act.put a d v) w → Q (.panic c) a w) (hS : S w) (h : wpMix P ops Q S (mixOps ops σ) a w) : wpAnyH P md ops Q S k listed a w := by
  simp only [Bool.and_eq_true, decide_eq_true_eq] at hB
  rw [← hB.1]
  exact wpAnyH_of_mix hsel hQ σ listed a w hB.2 hS h
end

/-- a part of the order; then whatever is shown of the rest. -/
theorem wp_region_part {P : Program} {id : Nat} {Q : Exit → Act → World → Prop} {a : Act} {w : World} {l : List Oper} (S : World → Prop) (σ : List (Nat × Bool)) (k : Nat) (listed : Array Bool) (hm : P.follows .mixedOrders = true)
    (hB : (Region.noSelect l.toArray && decide (σ.length + k = l.toArray.size) && Region.mixOk .any l.toArray σ (Array.replicate l.toArray.size false) && decide (Region.mixEnd σ (Array.replicate l.toArray.size false) = listed)) = true)
    (hQ : ∀ d v c a w, Q (.panic c) (Act.put a d v) w → Q (.panic c) a w) (hS : S w.drew)
    (h : wpMixR P l.toArray Q S (fun a w => S w → wpAnyH P .any l.toArray Q S k listed a w) (σ.filterMap fun p => (l[p.1]?).map fun o => (o, p.2)) a w.drew) : (Code.region id l.toArray true).wp P Q a w := by
  simp only [Bool.and_eq_true, decide_eq_true_eq] at hB
  obtain ⟨⟨⟨hsel, hlen⟩, hmix⟩, hend⟩ := hB
  refine wp_region_held (S := S) hm ?_
  subst hend
  rw [← hlen]
  rw [← hlen] at hmix h
  exact wpAnyH_of_mixR hsel hQ σ _ a _ hmix hS (by simpa [mixOps] using h)

end Go.Proofs.Ytcfgbfabokhjcaa

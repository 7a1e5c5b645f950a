/- Regions that draw their order, third part: reads that hold in every world that meets S may float among calls that keep S. Over any program. -/
import Derived.Test.YtcfgbfabokhjcaaRegion3
import Derived.OrdersHeld
import Derived.Deep.MidRow
import Derived.Laws.Rows
namespace Go.Proofs.Ytcfgbfabokhjcaa

section
variable {P : Program} {ops : Array Oper} {md : Region.Mode} {S : World → Prop} {Q : Exit → Act → World → Prop}

/-- an order: (place, may it float?). -/
def Region.mixSeq (md : Region.Mode) (ops : Array Oper) : List (Nat × Bool) → Array Bool → Bool
  | [], listed => (Region.ready md ops listed).isEmpty
  | (i, fr) :: rest, listed => (if fr then (Region.ready md ops listed).contains i && Region.free md ops listed i else decide (Region.ready md ops listed = [i])) && Region.mixSeq md ops rest (listed.setIfInBounds i true)

def wpMix (P : Program) (ops : Array Oper) (Q : Exit → Act → World → Prop) (S : World → Prop) : List (Oper × Bool) → Act → World → Prop
  | [], a, w => Q .normal a w
  | (o, true) :: r, a, w => ∃ v, YieldsIf P ops S o v a ∧ wpMix P ops Q S r (a.put o.dst v) w
  | (o, false) :: r, a, w => if Region.wanted o (yielded ops a.tmps) = true then o.wp P a w (fun a' w' => S w' ∧ wpMix P ops Q S r a' w') Q else S w ∧ wpMix P ops Q S r (a.put o.dst undef) w

def mixOps (ops : Array Oper) (σ : List (Nat × Bool)) : List (Oper × Bool) := σ.filterMap fun p => (ops[p.1]?).map fun o => (o, p.2)

theorem wpAnyH_of_mix (hsel : Region.noSelect ops = true) (hQ : ∀ d v c a w, Q (.panic c) (Act.put a d v) w → Q (.panic c) a w) :
    ∀ (σ : List (Nat × Bool)) (listed : Array Bool) (a : Act) (w : World), Region.mixSeq md ops σ listed = true → S w → wpMix P ops Q S (mixOps ops σ) a w → wpAnyH P md ops Q S σ.length listed a w
  | [], listed, a, w, hB, _, h => ⟨by simpa [Region.mixSeq] using hB, h⟩
  | (i, true) :: σ, listed, a, w, hB, hS, h => by
    simp only [Region.mixSeq, Bool.and_eq_true, if_true] at hB
    obtain ⟨⟨hr, hf⟩, hB'⟩ := hB
    have hr' : i ∈ Region.ready md ops listed := by simpa using hr
    obtain ⟨_, o, ho, _⟩ := mem_ready.1 hr'
    simp only [mixOps, List.filterMap_cons, ho, Option.map_some, wpMix] at h
    obtain ⟨v, hy, h⟩ := h
    exact wpAnyH_take ho hsel hf hr (fun c a w hh => hQ _ _ c a w hh) hy hS (wpAnyH_of_mix hsel hQ σ _ _ w hB' hS h)
  | (i, false) :: σ, listed, a, w, hB, hS, h => by
    simp only [Region.mixSeq, Bool.and_eq_true, Bool.false_eq_true, if_false, decide_eq_true_eq] at hB
    obtain ⟨hr, hB'⟩ := hB
    have hr' : i ∈ Region.ready md ops listed := by rw [hr]; simp
    obtain ⟨_, o, ho, _⟩ := mem_ready.1 hr'
    simp only [mixOps, List.filterMap_cons, ho, Option.map_some, wpMix] at h
    refine ⟨fun h0 => (by rw [hr] at h0; cases h0), fun j hj => ?_⟩
    rw [hr] at hj
    have : j = i := by simpa using hj
    subst this
    unfold wpOp
    simp only [ho]
    split
    · rename_i hw
      rw [if_pos hw] at h
      exact .inl (Oper.wp_mono (fun a' w' h' => ⟨h'.1, wpAnyH_of_mix hsel hQ σ _ a' w' hB' h'.1 h'.2⟩) h)
    · rename_i hw
      rw [if_neg hw] at h
      exact ⟨h.1, wpAnyH_of_mix hsel hQ σ _ _ w hB' h.1 h.2⟩

variable {o : Oper} {r : List (Oper × Bool)} {a : Act} {w : World}
theorem mix_nil (h : Q .normal a w) : wpMix P ops Q S [] a w := h
theorem mix_op (hw : Region.wanted o (yielded ops a.tmps) = true) (h : ∀ K : Act → World → Prop, (∀ a' w', S w' → wpMix P ops Q S r a' w' → K a' w') → o.wp P a w K Q) : wpMix P ops Q S ((o, false) :: r) a w := by
  unfold wpMix
  rw [if_pos hw]
  exact h _ fun a' w' h1 h2 => ⟨h1, h2⟩
theorem mix_off (hw : Region.wanted o (yielded ops a.tmps) = false) (hS : S w) (h : wpMix P ops Q S r (a.put o.dst undef) w) : wpMix P ops Q S ((o, false) :: r) a w := by
  unfold wpMix
  rw [if_neg (by simp [hw])]
  exact ⟨hS, h⟩
/-- what floats: its value, in every world that meets S. -/
theorem mix_free (hw : Region.wanted o (yielded ops a.tmps) = true) {v : Value} (hv : ∀ w, S w → (execOp a.eval o).run P w = .ok (.value v) w) (h : wpMix P ops Q S r (a.put o.dst v) w) : wpMix P ops Q S ((o, true) :: r) a w :=
  ⟨v, .inl ⟨hw, hv⟩, h⟩
theorem mix_free_off (hw : Region.wanted o (yielded ops a.tmps) = false) (h : wpMix P ops Q S r (a.put o.dst undef) w) : wpMix P ops Q S ((o, true) :: r) a w :=
  ⟨undef, .inr ⟨hw, rfl⟩, h⟩
theorem mix_move {dst : Option Tmp} {x : Operand} {ty : TypeId} {pos : String} {after : Array Edge} {g : Option (Nat × Bool)}
    (hw : Region.wanted { dst := dst, op := .move x, type := ty, pos := pos, after := after, guard := g } (yielded ops a.tmps) = true)
    (h : wpMix P ops Q S r (a.put dst (a.eval x)) w) : wpMix P ops Q S (({ dst := dst, op := .move x, type := ty, pos := pos, after := after, guard := g }, true) :: r) a w :=
  ⟨_, .inl ⟨hw, fun w _ => by simp [execOp]⟩, h⟩
end

theorem wp_region_mix {P : Program} {id : Nat} {Q : Exit → Act → World → Prop} {a : Act} {w : World} {l : List Oper} (S : World → Prop) (σ : List (Nat × Bool)) (hm : P.follows .mixedOrders = true)
    (hB : (Region.noSelect l.toArray && decide (σ.length = l.toArray.size) && Region.mixSeq .any l.toArray σ (Array.replicate l.toArray.size false)) = true)
    (hQ : ∀ d v c a w, Q (.panic c) (Act.put a d v) w → Q (.panic c) a w) (hS : S w.drew)
    (h : wpMix P l.toArray Q S (σ.filterMap fun p => (l[p.1]?).map fun o => (o, p.2)) a w.drew) : (Code.region id l.toArray true).wp P Q a w := by
  simp only [Bool.and_eq_true, decide_eq_true_eq] at hB
  obtain ⟨⟨hsel, hlen⟩, hmix⟩ := hB
  refine wp_region_held (S := S) hm ?_
  rw [← hlen]
  rw [← hlen] at hmix
  exact wpAnyH_of_mix hsel hQ σ _ a _ hmix hS (by simpa [mixOps] using h)

end Go.Proofs.Ytcfgbfabokhjcaa

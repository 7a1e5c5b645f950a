/- Regions that draw their order, second part: a tail in which moves between slots may float. Over any program. -/
import Derived.Test.YtkmoakbebpibdaaRegion
namespace Go.Proofs.Ytkmoakbebpibdaa

/-! A tail in which moves between slots may float: they are done as soon as they can be; all else comes in one order. -/
section
variable {P : Program} {ops : Array Oper} {md : Region.Mode} {w : World}

def isMove : Op → Bool
  | .move _ => true
  | _ => false

def Region.tailSeq (md : Region.Mode) (ops : Array Oper) : List Nat → Array Bool → Bool
  | [], listed => (Region.ready md ops listed).isEmpty
  | i :: rest, listed => (decide (Region.ready md ops listed = [i]) || ((Region.ready md ops listed).contains i && ((ops[i]?).map (fun o => isMove o.op)).getD false && Region.free md ops listed i)) && Region.tailSeq md ops rest (listed.setIfInBounds i true)

theorem move_yields {o : Oper} (hm : isMove o.op = true) (a : Act) : ∃ v, Yields P ops o v a := by
  by_cases hw : Region.wanted o (yielded ops a.tmps) = true
  · obtain ⟨dst, op, ty, pos, after, guard⟩ := o
    cases op <;> simp only [isMove, Bool.false_eq_true] at hm
    case move x => exact ⟨a.eval x, .inl ⟨hw, fun w => by simp [execOp]⟩⟩
  · exact ⟨undef, .inr ⟨by simpa using hw, rfl⟩⟩

theorem wpAny_of_tailSeq {Q : Exit → Act → World → Prop} (hsel : Region.noSelect ops = true) (hQ : ∀ d v c a w, Q (.panic c) (Act.put a d v) w → Q (.panic c) a w) :
    ∀ (σ : List Nat) (listed : Array Bool) (a : Act) (w : World), Region.tailSeq md ops σ listed = true → wpOps P ops Q σ a w → wpAny P md ops Q σ.length listed a w
  | [], listed, a, w, hB, h => ⟨by simpa [Region.tailSeq] using hB, h⟩
  | i :: σ, listed, a, w, hB, h => by
    simp only [Region.tailSeq, Bool.and_eq_true] at hB
    obtain ⟨h1, h2⟩ := hB
    rw [wpOps_cons] at h
    have h' : wpOp P ops Q i (wpAny P md ops Q σ.length (listed.setIfInBounds i true)) a w := wpOp_mono (fun a' w' hh => wpAny_of_tailSeq hsel hQ σ _ a' w' h2 hh) h
    rw [Bool.or_eq_true] at h1
    rcases h1 with h1 | h1
    · simp only [decide_eq_true_eq] at h1
      refine ⟨fun h0 => (by rw [h1] at h0; cases h0), fun j hj => ?_⟩
      rw [h1] at hj
      have : j = i := by simpa using hj
      subst this
      exact h'
    · simp only [Bool.and_eq_true] at h1
      obtain ⟨⟨hr, hm⟩, hf⟩ := h1
      have hr' : i ∈ Region.ready md ops listed := by simpa using hr
      obtain ⟨_, o, ho, _⟩ := mem_ready.1 hr'
      have hmo : isMove o.op = true := by simpa [ho] using hm
      obtain ⟨v, hy⟩ := move_yields (P := P) (ops := ops) hmo a
      refine wpAny_first ho (Region.noSelect_spec hsel) (fun c a w hh => hQ _ _ c a w hh) σ.length listed a w (Region.free_spec ho hf) hr' hy ?_
      unfold wpOp at h'
      simp only [ho] at h'
      rcases hy with ⟨hw, hv⟩ | ⟨hw, rfl⟩
      · rw [if_pos hw] at h'
        rcases h' with h' | ⟨hasks, hl⟩
        · unfold Oper.wp at h'
          rw [hv w] at h'
          exact h'
        · exfalso
          obtain ⟨dst, op, ty, pos, after, guard⟩ := o
          cases op <;> simp only [isMove, Bool.false_eq_true] at hmo
          case move x => exact absurd hasks.1 (by show ¬ noRoomEvent ∈ (#[] : Array Event); simp)
      · rw [if_neg (by simp [hw])] at h'
        exact h'

def Region.chain2 (md : Region.Mode) (ops : Array Oper) (n : Nat) : Bool :=
  (List.range ops.size).all fun t => decide (t ≤ n) || (List.range t).any fun j => decide (n ≤ j) && Region.waitsFor md ops t j

theorem tail_waits2 {n : Nat} {listed : Array Bool} (hs : Region.sinkB md ops n = true) (hc : Region.chain2 md ops n = true) (inv : HeadInv md ops n listed) :
    ∀ (d i : Nat), n - i = d → i < n → listed.getD i true = false → ∀ t, n ≤ t → t ∉ Region.ready md ops listed := by
  intro d
  induction d using Nat.strongRecOn with
  | _ d ih =>
    intro i hd hi hun t ht hr
    obtain ⟨_, ot, hot, hall⟩ := mem_ready.1 hr
    have htlt : t < ops.size := (Array.getElem?_eq_some_iff.1 hot).1
    by_cases htn : t = n
    · subst htn
      obtain ⟨j, hj, hj2⟩ := List.any_eq_true.1 (List.all_eq_true.1 hs i (List.mem_range.2 hi))
      simp only [Bool.and_eq_true, decide_eq_true_eq] at hj2
      obtain ⟨oj, hoj, e, he, hb, hon⟩ := Region.waitsFor_spec hj2.2
      have hjle := List.mem_range.1 hj
      by_cases hjt : j = t
      · subst hjt
        have : oj = ot := Option.some.inj (hoj.symm.trans hot)
        subst this
        have h2 := hall e he hb
        rw [hon, getD_both hun] at h2
        cases h2
      · cases hl : listed.getD j false with
        | true =>
          have h2 := inv.closed j oj hoj hl e he hb
          rw [hon, getD_both hun] at h2
          cases h2
        | false => exact ih (t - j) (by omega) j rfl (by omega) (getD_in (by rw [inv.size]; omega) hl) t (Nat.le_refl _) hr
    · have h1 := List.all_eq_true.1 hc t (List.mem_range.2 htlt)
      simp only [Bool.or_eq_true, decide_eq_true_eq] at h1
      rcases h1 with h1 | h1
      · omega
      · obtain ⟨j, hj, hj2⟩ := List.any_eq_true.1 h1
        simp only [Bool.and_eq_true, decide_eq_true_eq] at hj2
        have hjt := List.mem_range.1 hj
        obtain ⟨o', ho', e, he, hb, hon⟩ := Region.waitsFor_spec hj2.2
        have : o' = ot := Option.some.inj (ho'.symm.trans hot)
        subst this
        have h2 := hall e he hb
        rw [hon, getD_both (inv.tail j hj2.1 (by omega))] at h2
        cases h2

theorem head_first {n i : Nat} {oi : Oper} {v : Value} {L : Array Bool → Act → Prop} (hi : ops[i]? = some oi) (hsel : ∀ (j : Nat) (o : Oper) cs b, ops[j]? = some o → o.op ≠ .select cs b)
    (hwait : ∀ listed, HeadInv md ops n listed → listed.getD i true = false → ∀ t, n ≤ t → t ∉ Region.ready md ops listed)
    (hdone : ∀ listed a, L listed a → ∀ j ∈ Region.ready md ops listed, n ≤ j) :
    ∀ (f : Nat) (listed : Array Bool) (a : Act), HeadInv md ops n listed →
      (∀ j oj, ops[j]? = some oj → j ≠ i → listed.getD j true = false → (∀ e ∈ oj.after, Region.binds md e = true → e.on ≠ i) → oi.apart ops oj = true) →
      i ∈ Region.ready md ops listed → YieldsAt P ops w oi v a →
      wpAnyL P md ops w n L f (listed.setIfInBounds i true) (a.put oi.dst v) → wpAnyL P md ops w n L (f + 1) listed a := by
  intro f
  induction f with
  | zero =>
    intro listed a inv _ hr hy H
    have hun := (mem_ready.1 hr).1
    refine ⟨fun h => (by rw [h] at hr; cases hr), fun j hj => ?_⟩
    have hjn : j < n := Nat.lt_of_not_le fun h => hwait listed inv hun j h hj
    refine ⟨hjn, ?_⟩
    by_cases hji : j = i
    · subst hji; exact hy.stOp hi H
    · have := hdone _ _ H j (ready_mono hj hji)
      omega
  | succ f ih =>
    intro listed a inv hfree hr hy H
    have hun := (mem_ready.1 hr).1
    refine ⟨fun h => (by rw [h] at hr; cases hr), fun j hj => ?_⟩
    have hjn : j < n := Nat.lt_of_not_le fun h => hwait listed inv hun j h hj
    refine ⟨hjn, ?_⟩
    by_cases hji : j = i
    · subst hji; exact hy.stOp hi H
    · have h1 := (H.2 j (ready_mono hj hji)).2
      obtain ⟨hjun, oj, hoj, hall⟩ := mem_ready.1 hj
      have hnot : ∀ e ∈ oj.after, Region.binds md e = true → e.on ≠ i := fun e he hb heq => by
        have h1 := hall e he hb
        rw [heq, getD_both hun] at h1
        cases h1
      have h2 := stOp_put hoj (hfree j oj hoj hji hjun hnot) (fun cs b => hsel i oi cs b hi) (fun cs b => hsel j oj cs b hoj) hy h1
      refine stOp_mono (fun a' h3 => ih (listed.setIfInBounds j true) a' (inv.set hj hjn) (fun k ok hk hki hun2 hno => hfree k ok hk hki ?_ hno) (ready_mono hr (Ne.symm hji)) h3.1 ?_) h2
      · by_cases hjk : j = k
        · subst hjk; exact hjun
        · rw [getD_set_ne true hjk] at hun2; exact hun2
      · rw [Array.setIfInBounds_comm _ _ hji]
        exact h3.2

/-- the head is done in the order of the text, each in turn free of what is not yet done. -/
def Region.headLex (md : Region.Mode) (ops : Array Oper) (σ : List Nat) : Nat → Nat → Array Bool → Bool
  | 0, _, listed => Region.tailSeq md ops σ listed
  | f + 1, k, listed => (Region.ready md ops listed).contains k && Region.free md ops listed k && Region.headLex md ops σ f (k + 1) (listed.setIfInBounds k true)

def Region.twoParts (md : Region.Mode) (ops : Array Oper) (n : Nat) (σ : List Nat) : Bool :=
  Region.noSelect ops && decide (n + σ.length = ops.size) && Region.sinkB md ops n && Region.chain2 md ops n && Region.headLex md ops σ n 0 (Array.replicate ops.size false)

theorem tailSeq_ready {n : Nat} {listed : Array Bool} (hlt : ∀ i, i < n → listed.getD i true = true) : ∀ j ∈ Region.ready md ops listed, n ≤ j := by
  intro j hj
  have := (mem_ready.1 hj).1
  rcases Nat.lt_or_ge j n with h | h
  · rw [hlt j h] at this; cases this
  · exact h

theorem head_lex {n : Nat} {σ : List Nat} {Lq : Act → Prop} (hsel : Region.noSelect ops = true) (hs : Region.sinkB md ops n = true) (hc : Region.chain2 md ops n = true) (hn : n ≤ ops.size) :
    ∀ (l : List Oper) (k : Nat) (listed : Array Bool) (a : Act), (∀ j, j < l.length → l[j]? = ops[k + j]?) → k + l.length = n → HeadInv md ops n listed → (∀ i, i < k → listed.getD i true = true) →
    Region.headLex md ops σ l.length k listed = true → wpStill P ops w Lq l a →
    wpAnyL P md ops w n (fun listed' a' => Region.tailSeq md ops σ listed' = true ∧ (∀ i, i < n → listed'.getD i true = true) ∧ Lq a') l.length listed a
  | [], k, listed, a, _, hk, _, hdo, hB, h => by
    have : k = n := by simpa using hk
    subst this
    exact ⟨by simpa [Region.headLex] using hB, hdo, h⟩
  | o :: l, k, listed, a, hl, hk, inv, hdo, hB, h => by
    have h0 : ops[k]? = some o := by simpa using (hl 0 (by simp)).symm
    simp only [List.length_cons, Region.headLex, Bool.and_eq_true] at hB
    obtain ⟨⟨hr, hf⟩, hB'⟩ := hB
    have hkn : k < n := by simp only [List.length_cons] at hk; omega
    have hr' : k ∈ Region.ready md ops listed := by simpa using hr
    have hst : stOp P ops w k (wpStill P ops w Lq l) a := by unfold stOp; simp only [h0]; exact h
    obtain ⟨v, hy, hK⟩ := yieldsAt_of_stOp h0 hst
    have hks : k < listed.size := by rw [inv.size]; omega
    exact head_first h0 (Region.noSelect_spec hsel) (fun listed' inv' hun' => tail_waits2 hs hc inv' _ k rfl hkn hun') (fun listed' a' hL => tailSeq_ready hL.2.1) l.length listed a inv (Region.free_spec h0 hf) hr' hy
      (head_lex hsel hs hc hn l (k + 1) _ _ (fun j hj => by have := hl (j + 1) (by simp; omega); simpa [Nat.add_assoc, Nat.add_comm 1 j] using this) (by simp only [List.length_cons] at hk; omega) (inv.set hr' hkn)
        (fun i hi => by
          by_cases e : k = i
          · subst e; simp [hks]
          · rw [getD_set_ne true e]; exact hdo i (by omega)) hB' hK)
end

theorem wp_region_two {P : Program} {id : Nat} {Q : Exit → Act → World → Prop} {a : Act} {w : World} {l : List Oper} (n : Nat) (σ : List Nat) (hm : P.follows .mixedOrders = true) (hB : Region.twoParts .any l.toArray n σ = true)
    (hQ : ∀ d v c a w, Q (.panic c) (Act.put a d v) w → Q (.panic c) a w)
    (h : wpStill P l.toArray w.drew (fun a' => wpOps P l.toArray Q σ a' w.drew) (l.take n) a) : (Code.region id l.toArray true).wp P Q a w := by
  simp only [Region.twoParts, Bool.and_eq_true, decide_eq_true_eq] at hB
  obtain ⟨⟨⟨⟨hsel, hlen⟩, hs⟩, hc⟩, hlex⟩ := hB
  have hll : n + σ.length = l.length := by simpa using hlen
  have htl : (l.take n).length = n := by simp; omega
  have inv0 : HeadInv .any l.toArray n (Array.replicate l.toArray.size false) :=
    ⟨by simp, fun j oj _ hl => (by rw [getD_replicate_false] at hl; cases hl), fun t _ ht => getD_in (by simpa using ht) (getD_replicate_false _ _)⟩
  have H := head_lex (P := P) (w := w.drew) (md := .any) (σ := σ) (Lq := fun a' => wpOps P l.toArray Q σ a' w.drew) hsel hs hc (by simp; omega) (l.take n) 0 (Array.replicate l.toArray.size false) a (fun j hj => by
    have hj' : j < n := by rw [htl] at hj; exact hj
    simp [hj']) (by simpa using htl) inv0 (fun i hi => by omega) (by rw [htl]; exact hlex) h
  refine wp_region_any hm ?_
  have := wpAny_of_head (Q' := Q) (g := σ.length) (fun listed a' hL => wpAny_of_tailSeq (md := .any) hsel hQ σ listed a' w.drew hL.1 hL.2.2) _ _ _ H
  rw [htl, hlen] at this
  exact this

theorem wpOps_filter {P : Program} {l : List Oper} {Q : Exit → Act → World → Prop} : ∀ (σ : List Nat) (a : Act) (w : World), wpList P l.toArray Q (σ.filterMap fun i => l[i]?) a w → wpOps P l.toArray Q σ a w
  | [], a, w, h => h
  | i :: σ, a, w, h => by
    rw [wpOps_cons]
    unfold wpOp
    have key : ∀ a w, wpList P l.toArray Q (σ.filterMap fun i => l[i]?) a w → wpOps P l.toArray Q σ a w := fun a w => wpOps_filter σ a w
    rw [List.getElem?_toArray]
    cases ho : l[i]? with
    | none => simp only [List.filterMap_cons, ho] at h; exact key _ _ h
    | some o =>
      simp only [List.filterMap_cons, ho] at h
      unfold wpList at h
      simp only
      split
      · rename_i hw
        rw [if_pos hw] at h
        exact h.imp (Oper.wp_mono key) id
      · rename_i hw
        rw [if_neg hw] at h
        exact key _ _ h

theorem wp_region_float {P : Program} {id : Nat} {Q : Exit → Act → World → Prop} {a : Act} {w : World} {l : List Oper} (n : Nat) (σ : List Nat) (hm : P.follows .mixedOrders = true) (hB : Region.twoParts .any l.toArray n σ = true)
    (hQ : ∀ d v c a w, Q (.panic c) (Act.put a d v) w → Q (.panic c) a w)
    (h : wpStill P l.toArray w.drew (fun a' => wpList P l.toArray Q (σ.filterMap fun i => l[i]?) a' w.drew) (l.take n) a) : (Code.region id l.toArray true).wp P Q a w := by
  refine wp_region_two n σ hm hB hQ ?_
  have : ∀ a', wpList P l.toArray Q (σ.filterMap fun i => l[i]?) a' w.drew → wpOps P l.toArray Q σ a' w.drew := fun a' => wpOps_filter σ a' w.drew
  revert h
  generalize l.take n = k
  intro h
  induction k generalizing a with
  | nil => exact this a h
  | cons o k ih =>
    unfold wpStill at h ⊢
    split
    · rename_i hw
      rw [if_pos hw] at h
      exact Oper.still_mono (fun a' h' => ih h') h
    · rename_i hw
      rw [if_neg hw] at h
      exact ih h

end Go.Proofs.Ytkmoakbebpibdaa

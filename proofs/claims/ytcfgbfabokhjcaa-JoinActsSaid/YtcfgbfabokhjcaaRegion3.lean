/- Regions that draw their order, second part: a tail in which moves between slots may float. Over any program. -/
import Derived.Test.YtcfgbfabokhjcaaRegion
namespace Go.Proofs.Ytcfgbfabokhjcaa

/-! A tail in which moves between slots may float: they are done as soon as they can be; all else comes in one order. -/
section
variable {P : Program} {ops : Array Oper} {md : Region.Mode} {w : World}

def isMove : Op → Bool
  | .move _ => true
  | _ => false

def Region.tailSeq (md : Region.Mode) (ops : Array Oper) : List Nat → Array Bool → Bool
  | [], listed => (Region.ready md ops listed).isEmpty
  | i :: rest, listed => (decide (Region.ready md ops listed = [i]) || ((Region.ready md ops listed).contains i && ((ops[i]?).map (fun o => isMove o.op)).getD false && Region.free md ops listed i)) && Region.tailSeq md ops rest (listed.setIfInBounds i true)

theorem move_yields {o : Oper} (hm : isMove o.op = true) (a : Act) : ∃ v, Yields P ops o v a := by
  by_cases hw : Region.wanted o (yielded ops a.tmps) = true
  · obtain ⟨dst, op, ty, pos, after, guard⟩ := o
    cases op <;> simp only [isMove, Bool.false_eq_true] at hm
    case move x => exact ⟨a.eval x, .inl ⟨hw, fun w => by simp [execOp]⟩⟩
  · exact ⟨undef, .inr ⟨by simpa using hw, rfl⟩⟩

theorem wpAny_of_tailSeq {Q : Exit → Act → World → Prop} (hsel : Region.noSelect ops = true) (hQ : ∀ d v c a w, Q (.panic c) (Act.put a d v) w → Q (.panic c) a w) :
    ∀ (σ : List Nat) (listed : Array Bool) (a : Act) (w : World), Region.tailSeq md ops σ listed = true → wpOps P ops Q σ a w → wpAny P md ops Q σ.length listed a w
  | [], listed, a, w, hB, h => ⟨by simpa [Region.tailSeq] using hB, h⟩
  | i :: σ, listed, a, w, hB, h => by
    simp only [Region.tailSeq, Bool.and_eq_true] at hB
    obtain ⟨h1, h2⟩ := hB
    rw [wpOps_cons] at h
    have h' : wpOp P ops Q i (wpAny P md ops Q σ.length (listed.setIfInBounds i true)) a w := wpOp_mono (fun a' w' hh => wpAny_of_tailSeq hsel hQ σ _ a' w' h2 hh) h
    rw [Bool.or_eq_true] at h1
    rcases h1 with h1 | h1
    · simp only [decide_eq_true_eq] at h1
      refine ⟨fun h0 => (by rw [h1] at h0; cases h0), fun j hj => ?_⟩
      rw [h1] at hj
      have : j = i := by simpa using hj
      subst this
      exact h'
    · simp only [Bool.and_eq_true] at h1
      obtain ⟨⟨hr, hm⟩, hf⟩ := h1
      have hr' : i ∈ Region.ready md ops listed := by simpa using hr
      obtain ⟨_, o, ho, _⟩ := mem_ready.1 hr'
      have hmo : isMove o.op = true := by simpa [ho] using hm
      obtain ⟨v, hy⟩ := move_yields (P := P) (ops := ops) hmo a
      refine wpAny_first ho (Region.noSelect_spec hsel) (fun c a w hh => hQ _ _ c a w hh) σ.length listed a w (Region.free_spec ho hf) hr' hy ?_
      unfold wpOp at h'
      simp only [ho] at h'
      rcases hy with ⟨hw, hv⟩ | ⟨hw, rfl⟩
      · rw [if_pos hw] at h'
        rcases h' with h' | ⟨hasks, hl⟩
        · unfold Oper.wp at h'
          rw [hv w] at h'
          exact h'
        · exfalso
          obtain ⟨dst, op, ty, pos, after, guard⟩ := o
          cases op <;> simp only [isMove, Bool.false_eq_true] at hmo
          case move x => exact absurd hasks.1 (by show ¬ noRoomEvent ∈ (#[] : Array Event); simp)
      · rw [if_neg (by simp [hw])] at h'
        exact h'

def Region.chain2 (md : Region.Mode) (ops : Array Oper) (n : Nat) : Bool :=
  (List.range ops.size).all fun t => decide (t ≤ n) || (List.range t).any fun j => decide (n ≤ j) && Region.waitsFor md ops t j

def Region.sink2 (md : Region.Mode) (ops : Array Oper) (σ0 : List Nat) (n : Nat) : Bool :=
  (List.range n).all fun i => σ0.contains i || (List.range (n + 1)).any fun j => decide (i < j) && Region.waitsFor md ops j i

theorem tail_waits3 {n : Nat} {σ0 : List Nat} {listed : Array Bool} (hs : Region.sink2 md ops σ0 n = true) (hc : Region.chain2 md ops n = true) (inv : HeadInv md ops n listed) (h0 : ∀ i ∈ σ0, listed.getD i true = true) :
    ∀ (d i : Nat), n - i = d → i < n → listed.getD i true = false → ∀ t, n ≤ t → t ∉ Region.ready md ops listed := by
  intro d
  induction d using Nat.strongRecOn with
  | _ d ih =>
    intro i hd hi hun t ht hr
    obtain ⟨_, ot, hot, hall⟩ := mem_ready.1 hr
    have htlt : t < ops.size := (Array.getElem?_eq_some_iff.1 hot).1
    by_cases htn : t = n
    · subst htn
      have hsi := List.all_eq_true.1 hs i (List.mem_range.2 hi)
      rw [Bool.or_eq_true] at hsi
      rcases hsi with hsi | hsi
      · have := h0 i (by simpa using hsi)
        rw [hun] at this
        cases this
      obtain ⟨j, hj, hj2⟩ := List.any_eq_true.1 hsi
      simp only [Bool.and_eq_true, decide_eq_true_eq] at hj2
      obtain ⟨oj, hoj, e, he, hb, hon⟩ := Region.waitsFor_spec hj2.2
      have hjle := List.mem_range.1 hj
      by_cases hjt : j = t
      · subst hjt
        have : oj = ot := Option.some.inj (hoj.symm.trans hot)
        subst this
        have h2 := hall e he hb
        rw [hon, getD_both hun] at h2
        cases h2
      · cases hl : listed.getD j false with
        | true =>
          have h2 := inv.closed j oj hoj hl e he hb
          rw [hon, getD_both hun] at h2
          cases h2
        | false => exact ih (t - j) (by omega) j rfl (by omega) (getD_in (by rw [inv.size]; omega) hl) t (Nat.le_refl _) hr
    · have h1 := List.all_eq_true.1 hc t (List.mem_range.2 htlt)
      simp only [Bool.or_eq_true, decide_eq_true_eq] at h1
      rcases h1 with h1 | h1
      · omega
      · obtain ⟨j, hj, hj2⟩ := List.any_eq_true.1 h1
        simp only [Bool.and_eq_true, decide_eq_true_eq] at hj2
        have hjt := List.mem_range.1 hj
        obtain ⟨o', ho', e, he, hb, hon⟩ := Region.waitsFor_spec hj2.2
        have : o' = ot := Option.some.inj (ho'.symm.trans hot)
        subst this
        have h2 := hall e he hb
        rw [hon, getD_both (inv.tail j hj2.1 (by omega))] at h2
        cases h2

theorem getD_set_t {listed : Array Bool} {i j : Nat} (h : listed.getD i true = true) : (listed.setIfInBounds j true).getD i true = true := by
  by_cases e : j = i
  · subst e
    rcases Nat.lt_or_ge j listed.size with h' | h'
    · simp [h']
    · simp
  · rw [getD_set_ne true e]; exact h

theorem head_first {n i : Nat} {σ0 : List Nat} {oi : Oper} {v : Value} {L : Array Bool → Act → Prop} (hi : ops[i]? = some oi) (hsel : ∀ (j : Nat) (o : Oper) cs b, ops[j]? = some o → o.op ≠ .select cs b)
    (hwait : ∀ listed, HeadInv md ops n listed → (∀ i ∈ σ0, listed.getD i true = true) → listed.getD i true = false → ∀ t, n ≤ t → t ∉ Region.ready md ops listed)
    (hdone : ∀ listed a, L listed a → ∀ j ∈ Region.ready md ops listed, n ≤ j) :
    ∀ (f : Nat) (listed : Array Bool) (a : Act), HeadInv md ops n listed → (∀ i ∈ σ0, listed.getD i true = true) →
      (∀ j oj, ops[j]? = some oj → j ≠ i → listed.getD j true = false → (∀ e ∈ oj.after, Region.binds md e = true → e.on ≠ i) → oi.apart ops oj = true) →
      i ∈ Region.ready md ops listed → YieldsAt P ops w oi v a →
      wpAnyL P md ops w n L f (listed.setIfInBounds i true) (a.put oi.dst v) → wpAnyL P md ops w n L (f + 1) listed a := by
  intro f
  induction f with
  | zero =>
    intro listed a inv h0 _ hr hy H
    have hun := (mem_ready.1 hr).1
    refine ⟨fun h => (by rw [h] at hr; cases hr), fun j hj => ?_⟩
    have hjn : j < n := Nat.lt_of_not_le fun h => hwait listed inv h0 hun j h hj
    refine ⟨hjn, ?_⟩
    by_cases hji : j = i
    · subst hji; exact hy.stOp hi H
    · have := hdone _ _ H j (ready_mono hj hji)
      omega
  | succ f ih =>
    intro listed a inv h0 hfree hr hy H
    have hun := (mem_ready.1 hr).1
    refine ⟨fun h => (by rw [h] at hr; cases hr), fun j hj => ?_⟩
    have hjn : j < n := Nat.lt_of_not_le fun h => hwait listed inv h0 hun j h hj
    refine ⟨hjn, ?_⟩
    by_cases hji : j = i
    · subst hji; exact hy.stOp hi H
    · have h1 := (H.2 j (ready_mono hj hji)).2
      obtain ⟨hjun, oj, hoj, hall⟩ := mem_ready.1 hj
      have hnot : ∀ e ∈ oj.after, Region.binds md e = true → e.on ≠ i := fun e he hb heq => by
        have h1 := hall e he hb
        rw [heq, getD_both hun] at h1
        cases h1
      have h2 := stOp_put hoj (hfree j oj hoj hji hjun hnot) (fun cs b => hsel i oi cs b hi) (fun cs b => hsel j oj cs b hoj) hy h1
      refine stOp_mono (fun a' h3 => ih (listed.setIfInBounds j true) a' (inv.set hj hjn) (fun i hi => getD_set_t (h0 i hi)) (fun k ok hk hki hun2 hno => hfree k ok hk hki ?_ hno) (ready_mono hr (Ne.symm hji)) h3.1 ?_) h2
      · by_cases hjk : j = k
        · subst hjk; exact hjun
        · rw [getD_set_ne true hjk] at hun2; exact hun2
      · rw [Array.setIfInBounds_comm _ _ hji]
        exact h3.2

/-- the head is done in the order given, each in turn free of what is not yet done. -/
def Region.headSeq (md : Region.Mode) (ops : Array Oper) (σ : List Nat) : List Nat → Array Bool → Bool
  | [], listed => Region.tailSeq md ops σ listed
  | k :: rest, listed => (Region.ready md ops listed).contains k && Region.free md ops listed k && Region.headSeq md ops σ rest (listed.setIfInBounds k true)

theorem tailSeq_ready {n : Nat} {listed : Array Bool} (hlt : ∀ i, i < n → listed.getD i true = true) : ∀ j ∈ Region.ready md ops listed, n ≤ j := by
  intro j hj
  have := (mem_ready.1 hj).1
  rcases Nat.lt_or_ge j n with h | h
  · rw [hlt j h] at this; cases this
  · exact h

theorem head_seq {n : Nat} {σ0 σ : List Nat} {Lq : Act → Prop} (hsel : Region.noSelect ops = true) (hs : Region.sink2 md ops σ0 n = true) (hc : Region.chain2 md ops n = true) (hn : n ≤ ops.size) :
    ∀ (hl : List Nat) (listed : Array Bool) (a : Act), (∀ i ∈ hl, i < n) → HeadInv md ops n listed → (∀ i ∈ σ0, listed.getD i true = true) → (∀ i, i < n → i ∈ hl ∨ listed.getD i true = true) →
    Region.headSeq md ops σ hl listed = true → wpStill P ops w Lq (hl.filterMap fun i => ops[i]?) a →
    wpAnyL P md ops w n (fun listed' a' => Region.tailSeq md ops σ listed' = true ∧ (∀ i, i < n → listed'.getD i true = true) ∧ Lq a') hl.length listed a
  | [], listed, a, _, _, _, hdo, hB, h => ⟨hB, fun i hi => (hdo i hi).resolve_left (by simp), h⟩
  | k :: hl, listed, a, hlt, inv, h0, hdo, hB, h => by
    have hkn : k < n := hlt k (by simp)
    have hk : k < ops.size := by omega
    have hok : ops[k]? = some ops[k] := by simp [hk]
    simp only [Region.headSeq, Bool.and_eq_true] at hB
    obtain ⟨⟨hr, hf⟩, hB'⟩ := hB
    have hr' : k ∈ Region.ready md ops listed := by simpa using hr
    simp only [List.filterMap_cons, hok] at h
    have hst : stOp P ops w k (wpStill P ops w Lq (hl.filterMap fun i => ops[i]?)) a := by unfold stOp; simp only [hok]; exact h
    obtain ⟨v, hy, hK⟩ := yieldsAt_of_stOp hok hst
    have hks : k < listed.size := by rw [inv.size]; omega
    exact head_first (σ0 := σ0) hok (Region.noSelect_spec hsel) (fun listed' inv' h0' hun' => tail_waits3 hs hc inv' h0' _ k rfl hkn hun') (fun listed' a' hL => tailSeq_ready hL.2.1) hl.length listed a inv h0 (Region.free_spec hok hf) hr' hy
      (head_seq hsel hs hc hn hl _ _ (fun i hi => hlt i (by simp [hi])) (inv.set hr' hkn) (fun i hi => getD_set_t (h0 i hi))
        (fun i hi => by
          by_cases e : k = i
          · subst e; right; simp [hks]
          · rcases hdo i hi with h | h
            · left
              rcases List.mem_cons.1 h with h | h
              · exact absurd h.symm e
              · exact h
            · right; exact getD_set_t h) hB' hK)

/-- moves ahead of all else. -/
def Region.preSeq (md : Region.Mode) (ops : Array Oper) (σ hl : List Nat) : List Nat → Array Bool → Bool
  | [], listed => Region.headSeq md ops σ hl listed
  | k :: rest, listed => (Region.ready md ops listed).contains k && ((ops[k]?).map (fun o => isMove o.op)).getD false && Region.free md ops listed k && Region.preSeq md ops σ hl rest (listed.setIfInBounds k true)

def Region.heads (σ0 : List Nat) (n : Nat) : List Nat := (List.range n).filter fun i => !σ0.contains i

def Region.threeParts (md : Region.Mode) (ops : Array Oper) (n : Nat) (σ0 σ : List Nat) : Bool :=
  Region.noSelect ops && decide (σ0.length + ((Region.heads σ0 n).length + σ.length) = ops.size) && decide (n ≤ ops.size) && σ0.all (fun i => decide (i < n)) && Region.sink2 md ops σ0 n && Region.chain2 md ops n && Region.preSeq md ops σ (Region.heads σ0 n) σ0 (Array.replicate ops.size false)

theorem pre_seq {n : Nat} {τ σ0 σ : List Nat} {Q : Exit → Act → World → Prop} (hsel : Region.noSelect ops = true) (hs : Region.sink2 md ops τ n = true) (hc : Region.chain2 md ops n = true) (hn : n ≤ ops.size)
    (hQ : ∀ d v c a w, Q (.panic c) (Act.put a d v) w → Q (.panic c) a w) :
    ∀ (listed : Array Bool) (a : Act), (∀ i ∈ σ0, i < n) → HeadInv md ops n listed → (∀ i ∈ τ, i ∈ σ0 ∨ listed.getD i true = true) →
    Region.preSeq md ops σ (Region.heads τ n) σ0 listed = true → wpStill P ops w (fun a' => wpOps P ops Q σ a' w) ((σ0 ++ Region.heads τ n).filterMap fun i => ops[i]?) a →
    wpAny P md ops Q (σ0.length + ((Region.heads τ n).length + σ.length)) listed a w := by
  induction σ0 with
  | nil =>
    intro listed a _ inv h0 hB h
    have hh : ∀ i ∈ Region.heads τ n, i < n := fun i hi => by simpa using (List.mem_filter.1 hi).1
    have h0' : ∀ i ∈ τ, listed.getD i true = true := fun i hi => (h0 i hi).resolve_left (by simp)
    have H := head_seq (P := P) (w := w) (md := md) (σ := σ) hsel hs hc hn (Region.heads τ n) listed a hh inv h0' (fun i hi => by
      by_cases e : i ∈ τ
      · right; exact h0' i e
      · left; unfold Region.heads; rw [List.mem_filter]; exact ⟨List.mem_range.2 hi, by simpa using e⟩) hB h
    have := wpAny_of_head (Q' := Q) (g := σ.length) (fun listed a' hL => wpAny_of_tailSeq (md := md) hsel hQ σ listed a' w hL.1 hL.2.2) _ _ _ H
    rw [List.length_nil, Nat.zero_add]
    exact this
  | cons k σ0 ih =>
    intro listed a hlt inv h0 hB h
    have hkn : k < n := hlt k (by simp)
    have hok : ops[k]? = some ops[k] := by simp [show k < ops.size by omega]
    simp only [Region.preSeq, Bool.and_eq_true] at hB
    obtain ⟨⟨⟨hr, hm⟩, hf⟩, hB'⟩ := hB
    have hr' : k ∈ Region.ready md ops listed := by simpa using hr
    have hmo : isMove (ops[k]).op = true := by simpa [hok] using hm
    have hks : k < listed.size := by rw [inv.size]; omega
    simp only [List.cons_append, List.filterMap_cons, hok] at h
    have hst : stOp P ops w k (wpStill P ops w (fun a' => wpOps P ops Q σ a' w) ((σ0 ++ Region.heads τ n).filterMap fun i => ops[i]?)) a := by unfold stOp; simp only [hok]; exact h
    obtain ⟨v, hy, hK⟩ := yieldsAt_of_stOp hok hst
    obtain ⟨u, hu⟩ := move_yields (P := P) (ops := ops) hmo a
    have huv : u = v := by
      rcases hu with ⟨hw, hv⟩ | ⟨hw, rfl⟩
      · rcases hy with ⟨hw', hv' | ⟨hv', rfl⟩ | ⟨f, args, hv', _⟩⟩ | ⟨hw', rfl⟩
        · rw [hv w] at hv'; injection hv' with h1 _; injection h1
        · rw [hv w] at hv'; injection hv' with h1 _; injection h1
        · rw [hv w] at hv'; injection hv' with h1 _; injection h1
        · rw [hw] at hw'; cases hw'
      · rcases hy with ⟨hw', _⟩ | ⟨hw', rfl⟩
        · rw [hw] at hw'; cases hw'
        · rfl
    subst huv
    rw [List.length_cons, show σ0.length + 1 + ((Region.heads τ n).length + σ.length) = (σ0.length + ((Region.heads τ n).length + σ.length)) + 1 by omega]
    exact wpAny_first hok (Region.noSelect_spec hsel) (fun c a w hh => hQ _ _ c a w hh) _ listed a w (Region.free_spec hok hf) hr' hu
      (ih _ _ (fun i hi => hlt i (by simp [hi])) (inv.set hr' hkn) (fun i hi => by
        rcases h0 i hi with h | h
        · rcases List.mem_cons.1 h with h | h
          · subst h; right; simp [hks]
          · left; exact h
        · right; exact getD_set_t h) hB' hK)
end

theorem wpOps_filter {P : Program} {l : List Oper} {Q : Exit → Act → World → Prop} : ∀ (σ : List Nat) (a : Act) (w : World), wpList P l.toArray Q (σ.filterMap fun i => l[i]?) a w → wpOps P l.toArray Q σ a w
  | [], a, w, h => h
  | i :: σ, a, w, h => by
    rw [wpOps_cons]
    unfold wpOp
    have key : ∀ a w, wpList P l.toArray Q (σ.filterMap fun i => l[i]?) a w → wpOps P l.toArray Q σ a w := fun a w => wpOps_filter σ a w
    rw [List.getElem?_toArray]
    cases ho : l[i]? with
    | none => simp only [List.filterMap_cons, ho] at h; exact key _ _ h
    | some o =>
      simp only [List.filterMap_cons, ho] at h
      unfold wpList at h
      simp only
      split
      · rename_i hw
        rw [if_pos hw] at h
        exact h.imp (Oper.wp_mono key) id
      · rename_i hw
        rw [if_neg hw] at h
        exact key _ _ h

theorem wpStill_mono {P : Program} {ops : Array Oper} {w : World} {A B : Act → Prop} (hAB : ∀ a, A a → B a) : ∀ (l : List Oper) (a : Act), wpStill P ops w A l a → wpStill P ops w B l a
  | [], a, h => hAB a h
  | o :: l, a, h => by
    unfold wpStill at h ⊢
    split
    · rename_i hw
      rw [if_pos hw] at h
      exact Oper.still_mono (fun a' h' => wpStill_mono hAB l a' h') h
    · rename_i hw
      rw [if_neg hw] at h
      exact wpStill_mono hAB l _ h

/-- n: where the tail begins; σ0: moves done first; σ: the tail's order. -/
theorem wp_region_free {P : Program} {id : Nat} {Q : Exit → Act → World → Prop} {a : Act} {w : World} {l : List Oper} (n : Nat) (σ0 σ : List Nat) (hm : P.follows .mixedOrders = true) (hB : Region.threeParts .any l.toArray n σ0 σ = true)
    (hQ : ∀ d v c a w, Q (.panic c) (Act.put a d v) w → Q (.panic c) a w)
    (h : wpStill P l.toArray w.drew (fun a' => wpList P l.toArray Q (σ.filterMap fun i => l[i]?) a' w.drew) ((σ0 ++ Region.heads σ0 n).filterMap fun i => l[i]?) a) : (Code.region id l.toArray true).wp P Q a w := by
  simp only [Region.threeParts, Bool.and_eq_true, decide_eq_true_eq] at hB
  obtain ⟨⟨⟨⟨⟨⟨hsel, hlen⟩, hn⟩, hσ⟩, hs⟩, hc⟩, hlex⟩ := hB
  have hσ' : ∀ i ∈ σ0, i < n := fun i hi => by simpa using List.all_eq_true.1 hσ i hi
  have inv0 : HeadInv .any l.toArray n (Array.replicate l.toArray.size false) :=
    ⟨by simp, fun j oj _ hl => (by rw [getD_replicate_false] at hl; cases hl), fun t _ ht => getD_in (by simpa using ht) (getD_replicate_false _ _)⟩
  have h' := wpStill_mono (fun a' => wpOps_filter σ a' w.drew) _ a h
  have := pre_seq (P := P) (w := w.drew) (md := .any) (τ := σ0) (σ0 := σ0) (σ := σ) (Q := Q) hsel hs hc hn hQ (Array.replicate l.toArray.size false) a hσ' inv0 (fun i hi => .inl hi) hlex (by simpa using h')
  rw [hlen] at this
  exact wp_region_any hm this

end Go.Proofs.Ytcfgbfabokhjcaa

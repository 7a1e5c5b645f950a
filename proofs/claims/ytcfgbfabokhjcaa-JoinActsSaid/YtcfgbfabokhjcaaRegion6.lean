/- Regions that draw their order, fifth part: the last operation may turn what the reads that floated have read, if it waits for each of them. Over any program. -/
import Derived.Test.YtcfgbfabokhjcaaRegion5
namespace Go.Proofs.Ytcfgbfabokhjcaa

section
variable {P : Program} {ops : Array Oper} {md : Region.Mode} {S : World → Prop} {Q : Exit → Act → World → Prop} {L : Nat}

/-- whatever order is picked; S holds behind each operation but number L. -/
def wpAnyN (P : Program) (md : Region.Mode) (ops : Array Oper) (Q : Exit → Act → World → Prop) (S : World → Prop) (L : Nat) : Nat → Array Bool → Act → World → Prop
  | 0, listed, a, w => Region.ready md ops listed = [] ∧ Q .normal a w
  | n + 1, listed, a, w => (Region.ready md ops listed = [] → Q .normal a w) ∧ ∀ i ∈ Region.ready md ops listed, wpOp P ops Q i (fun a' w' => (i ≠ L → S w') ∧ wpAnyN P md ops Q S L n (listed.setIfInBounds i true) a' w') a w

theorem wpAny_of_N : ∀ (n : Nat) (listed : Array Bool) (a : Act) (w : World), wpAnyN P md ops Q S L n listed a w → wpAny P md ops Q n listed a w
  | 0, _, _, _, h => h
  | n + 1, _, _, _, h => ⟨h.1, fun i hi => wpOp_mono (fun a' w' k => wpAny_of_N n _ a' w' k.2) (h.2 i hi)⟩

/-- operation L waits for operation i. -/
def Region.waitsOn (md : Region.Mode) (ops : Array Oper) (L i : Nat) : Bool := match ops[L]? with | some o => o.after.any fun e => Region.binds md e && (e.on == i) | none => false

theorem wpAnyN_first {i : Nat} {oi : Oper} {v : Value} (hi : ops[i]? = some oi) (hsel : ∀ (j : Nat) (o : Oper) cs b, ops[j]? = some o → o.op ≠ .select cs b)
    (hQ : ∀ c a w, Q (.panic c) (a.put oi.dst v) w → Q (.panic c) a w) (hL : Region.waitsOn md ops L i = true) :
    ∀ (n : Nat) (listed : Array Bool) (a : Act) (w : World),
      (∀ j oj, ops[j]? = some oj → j ≠ i → listed.getD j true = false → (∀ e ∈ oj.after, Region.binds md e = true → e.on ≠ i) → oi.apart ops oj = true) →
      i ∈ Region.ready md ops listed → YieldsIf P ops S oi v a → S w →
      wpAnyN P md ops Q S L n (listed.setIfInBounds i true) (a.put oi.dst v) w → wpAnyN P md ops Q S L (n + 1) listed a w
  | n, listed, a, w, hfree, hr, hy, hS, H => by
    refine ⟨fun h0 => (by rw [h0] at hr; cases hr), fun j hj => ?_⟩
    rcases Decidable.em (j = i) with hji | hji
    · subst hji
      exact hy.wpOp hi hS ⟨fun _ => hS, H⟩
    have hrest := ready_mono hj hji
    match n, H with
    | 0, H => rw [H.1] at hrest; cases hrest
    | n + 1, H =>
      obtain ⟨hjun, oj, hoj, hall⟩ := mem_ready.1 hj
      have hnot : ∀ e ∈ oj.after, Region.binds md e = true → e.on ≠ i := fun e he hb heq => by
        have h1 := hall e he hb
        have h0 := (mem_ready.1 hr).1
        rw [heq] at h1
        simp only [Array.getD] at h0 h1
        split at h0
        · rename_i hs
          rw [dif_pos hs, h0] at h1
          cases h1
        · cases h0
      have hjL : j ≠ L := fun e => by
        subst e
        unfold Region.waitsOn at hL
        rw [hoj] at hL
        obtain ⟨k, hk, hk2⟩ := Array.any_eq_true.1 hL
        simp only [Bool.and_eq_true, beq_iff_eq] at hk2
        exact hnot _ (Array.getElem_mem hk) hk2.1 hk2.2
      have hstep := wpOp_putIf hoj (hfree j oj hoj hji hjun hnot) (fun cs b => hsel i oi cs b hi) (fun cs b => hsel j oj cs b hoj) hQ hy (H.2 j hrest)
      refine wpOp_mono (fun a' w' k => ⟨fun _ => k.2.1 hjL, ?_⟩) hstep
      refine wpAnyN_first hi hsel hQ hL n (listed.setIfInBounds j true) a' w' (fun x ox hx hxi hun hno => ?_) (ready_mono hr (Ne.symm hji)) k.1 (k.2.1 hjL) ?_
      · refine hfree x ox hx hxi ?_ hno
        rcases Decidable.em (j = x) with e | e
        · subst e; exact hjun
        · rw [getD_set_ne true e] at hun; exact hun
      · rw [Array.setIfInBounds_comm _ _ hji]
        exact k.2.2

theorem wpAnyN_of_mixR {k : Nat} (hsel : Region.noSelect ops = true) (hQ : ∀ d v c a w, Q (.panic c) (Act.put a d v) w → Q (.panic c) a w) :
    ∀ (σ : List (Nat × Bool)) (listed : Array Bool) (a : Act) (w : World), Region.mixOk md ops σ listed = true → (σ.all fun p => !p.2 || Region.waitsOn md ops L p.1) = true → S w →
      wpMixR P ops Q S (fun a w => S w → wpAnyN P md ops Q S L k (Region.mixEnd σ listed) a w) (mixOps ops σ) a w → wpAnyN P md ops Q S L (σ.length + k) listed a w
  | [], listed, a, w, _, _, hS, h => by rw [List.length_nil, Nat.zero_add]; exact h hS
  | (i, true) :: σ, listed, a, w, hB, hW, hS, h => by
    simp only [Region.mixOk, Bool.and_eq_true, if_true] at hB
    obtain ⟨⟨hr, hf⟩, hB'⟩ := hB
    rw [List.all_cons, Bool.and_eq_true] at hW
    have hwi : Region.waitsOn md ops L i = true := by simpa using hW.1
    have hr' : i ∈ Region.ready md ops listed := by simpa using hr
    obtain ⟨_, o, ho, _⟩ := mem_ready.1 hr'
    simp only [mixOps, List.filterMap_cons, ho, Option.map_some, wpMixR] at h
    obtain ⟨v, hy, h⟩ := h
    rw [List.length_cons, show σ.length + 1 + k = (σ.length + k) + 1 by omega]
    exact wpAnyN_first ho (Region.noSelect_spec hsel) (fun c a w hh => hQ _ _ c a w hh) hwi _ listed a w (Region.free_spec ho hf) hr' hy hS (wpAnyN_of_mixR hsel hQ σ _ _ w hB' hW.2 hS h)
  | (i, false) :: σ, listed, a, w, hB, hW, hS, h => by
    simp only [Region.mixOk, Bool.and_eq_true, Bool.false_eq_true, if_false, decide_eq_true_eq] at hB
    obtain ⟨hr, hB'⟩ := hB
    rw [List.all_cons, Bool.and_eq_true] at hW
    have hr' : i ∈ Region.ready md ops listed := by rw [hr]; simp
    obtain ⟨_, o, ho, _⟩ := mem_ready.1 hr'
    simp only [mixOps, List.filterMap_cons, ho, Option.map_some, wpMixR] at h
    rw [List.length_cons, show σ.length + 1 + k = (σ.length + k) + 1 by omega]
    refine ⟨fun h0 => (by rw [hr] at h0; cases h0), fun j hj => ?_⟩
    rw [hr] at hj
    have : j = i := by simpa using hj
    subst this
    unfold wpOp
    simp only [ho]
    split
    · rename_i hw
      rw [if_pos hw] at h
      exact .inl (Oper.wp_mono (fun a' w' h' => ⟨fun _ => h'.1, wpAnyN_of_mixR hsel hQ σ _ a' w' hB' hW.2 h'.1 h'.2⟩) h)
    · rename_i hw
      rw [if_neg hw] at h
      exact ⟨fun _ => h.1, wpAnyN_of_mixR hsel hQ σ _ _ w hB' hW.2 h.1 h.2⟩
end

/-- an order whose last operation, number L, waits for all reads that float: behind it S need not hold. -/
theorem wp_region_last {P : Program} {id : Nat} {Q : Exit → Act → World → Prop} {a : Act} {w : World} {l : List Oper} (S : World → Prop) (σ : List (Nat × Bool)) (L : Nat) (o : Oper) (hm : P.follows .mixedOrders = true)
    (hB : (Region.noSelect l.toArray && decide (σ.length + 1 = l.toArray.size) && Region.mixOk .any l.toArray σ (Array.replicate l.toArray.size false) && (σ.all fun p => !p.2 || Region.waitsOn .any l.toArray L p.1) && decide (Region.ready .any l.toArray (Region.mixEnd σ (Array.replicate l.toArray.size false)) = [L]) && (Region.ready .any l.toArray ((Region.mixEnd σ (Array.replicate l.toArray.size false)).setIfInBounds L true)).isEmpty) = true)
    (hL : l.toArray[L]? = some o) (hg : o.guard = none)
    (hQ : ∀ d v c a w, Q (.panic c) (Act.put a d v) w → Q (.panic c) a w) (hS : S w.drew)
    (h : wpMixR P l.toArray Q S (fun a w => S w → ∀ K : Act → World → Prop, (∀ a' w', Q .normal a' w' → K a' w') → o.wp P a w K Q) (σ.filterMap fun p => (l[p.1]?).map fun o => (o, p.2)) a w.drew) : (Code.region id l.toArray true).wp P Q a w := by
  simp only [Bool.and_eq_true, decide_eq_true_eq] at hB
  obtain ⟨⟨⟨⟨⟨hsel, hlen⟩, hmix⟩, hwt⟩, hrd⟩, hend⟩ := hB
  refine wp_region_any hm (wpAny_of_N (S := S) (L := L) _ _ _ _ ?_)
  have hmono : ∀ (τ : List (Oper × Bool)) (a : Act) (w : World) (R R' : Act → World → Prop), (∀ a w, R a w → R' a w) → wpMixR P l.toArray Q S R τ a w → wpMixR P l.toArray Q S R' τ a w := by
    intro τ
    induction τ with
    | nil => intro a w R R' hR h; exact hR a w h
    | cons p τ ih =>
      intro a w R R' hR h
      obtain ⟨o, b⟩ := p
      cases b with
      | true =>
        obtain ⟨v, hy, h⟩ := h
        exact ⟨v, hy, ih _ _ R R' hR h⟩
      | false =>
        unfold wpMixR at h ⊢
        split
        · rename_i hw
          rw [if_pos hw] at h
          exact Oper.wp_mono (fun a' w' h' => ⟨h'.1, ih _ _ R R' hR h'.2⟩) h
        · rename_i hw
          rw [if_neg hw] at h
          exact ⟨h.1, ih _ _ R R' hR h.2⟩
  rw [← hlen]
  rw [← hlen] at hmix hrd hend
  refine wpAnyN_of_mixR (k := 1) hsel hQ σ _ a _ hmix hwt hS (hmono _ _ _ _ _ (fun a w hR hS => ?_) (by simpa [mixOps] using h))
  refine ⟨fun h0 => (by rw [hrd] at h0; cases h0), fun j hj => ?_⟩
  rw [hrd] at hj
  have : j = L := by simpa using hj
  subst this
  unfold wpOp
  simp only [hL]
  have hw : Region.wanted o (yielded l.toArray a.tmps) = true := by unfold Region.wanted; rw [hg]
  rw [if_pos hw]
  exact .inl (hR hS _ fun a' w' hq => ⟨fun hne => absurd rfl hne, by simpa using hend, hq⟩)

end Go.Proofs.Ytcfgbfabokhjcaa

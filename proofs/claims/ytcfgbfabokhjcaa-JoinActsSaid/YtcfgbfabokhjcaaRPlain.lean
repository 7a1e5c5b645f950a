/- Chapter 19: the document's own reassembly, plain: places in a row, what is taken out, M. No program in sight. -/
import Derived.Test.YtcfgbfabokhjcaaTwo
namespace Go.Proofs.Ytcfgbfabokhjcaa
namespace Plain
open Go

/-- the place of the first that fits; -1: none. -/
def idxL {α : Type} (l : List α) (p : α → Bool) : Int := if l.findIdx p < l.length then (l.findIdx p : Int) else -1
theorem idx_some {α : Type} {l : List α} {p : α → Bool} {k : Nat} (hk : k < l.length) (h : p l[k] = true) (hb : ∀ j (hj : j < l.length), j < k → p l[j] = false) : idxL l p = k := by
  have e : l.findIdx p = k := (List.findIdx_eq hk).2 ⟨h, fun j hj => hb j (by omega) hj⟩
  unfold idxL
  rw [e, if_pos hk]
theorem idx_none {α : Type} {l : List α} {p : α → Bool} (h : ∀ j (hj : j < l.length), p l[j] = false) : idxL l p = -1 := by
  unfold idxL
  rw [if_neg]
  intro c
  have h1 := h _ c
  rw [List.findIdx_getElem (w := c)] at h1
  cases h1
theorem idx_cases {α : Type} (l : List α) (p : α → Bool) : (idxL l p = -1 ∧ ∀ x ∈ l, p x = false) ∨ ∃ k, ∃ hk : k < l.length, idxL l p = k ∧ p l[k] = true := by
  by_cases c : l.findIdx p < l.length
  · right
    refine ⟨l.findIdx p, c, ?_, List.findIdx_getElem (w := c)⟩
    unfold idxL
    rw [if_pos c]
  · left
    refine ⟨by unfold idxL; rw [if_neg c], fun x hx => ?_⟩
    cases h : p x with
    | false => rfl
    | true => exact absurd (List.findIdx_lt_length_of_exists ⟨x, hx, h⟩) c

/-- a row without its k-th. -/
def outL {α : Type} (l : List α) (k : Nat) : List α := l.take k ++ l.drop (k + 1)
theorem out_eq {α : Type} (f : α → Int) : ∀ (l : List α) (k : Nat) (hk : k < l.length), (l.map f).Nodup → outL l k = l.filter fun x => f x != f l[k]
  | a :: l, 0, _, hn => by
    rw [List.map_cons, List.nodup_cons] at hn
    show l = _
    rw [List.filter_cons]
    simp only [List.getElem_cons_zero, bne_self_eq_false, Bool.false_eq_true, if_false]
    refine (List.filter_eq_self.2 fun x hx => ?_).symm
    simp only [bne_iff_ne, ne_eq]
    intro e
    exact hn.1 (List.mem_map.2 ⟨x, hx, e⟩)
  | a :: l, k + 1, hk, hn => by
    rw [List.map_cons, List.nodup_cons] at hn
    have hk' : k < l.length := by simpa using hk
    have ih := out_eq f l k hk' hn.2
    show a :: outL l k = _
    rw [ih, List.filter_cons]
    have : (f a != f (a :: l)[k + 1]) = true := by
      simp only [bne_iff_ne, ne_eq, List.getElem_cons_succ]
      intro e
      exact hn.1 (List.mem_map.2 ⟨l[k], List.getElem_mem _, e.symm⟩)
    rw [if_pos this]
    rfl
theorem out_len {α : Type} {l : List α} {k : Nat} (hk : k < l.length) : (outL l k).length + 1 = l.length := by unfold outL; simp; omega

def J.at (S : J) (q : Int) : Int := idxL S.held fun f => f.q == q
def J.place (S : J) (q : Int) : Int := idxL S.links fun p => p.1 == q
theorem key_inj {α : Type} {f : α → Int} : ∀ {l : List α}, (l.map f).Nodup → ∀ {a b : α}, a ∈ l → b ∈ l → f a = f b → a = b
  | [], _, _, _, ha, _, _ => by cases ha
  | c :: l, hn, a, b, ha, hb, e => by
    rw [List.map_cons, List.nodup_cons] at hn
    rcases List.mem_cons.1 ha with ha | ha <;> rcases List.mem_cons.1 hb with hb | hb
    · rw [ha, hb]
    · exact absurd (List.mem_map.2 ⟨b, hb, by rw [← e, ha]⟩) hn.1
    · exact absurd (List.mem_map.2 ⟨a, ha, by rw [e, hb]⟩) hn.1
    · exact key_inj hn.2 ha hb e
theorem get_of {S : J} (h : S.Ok) {k : Nat} (hk : k < S.held.length) {q : Int} (e : S.held[k].q = q) : S.get q = some S.held[k] := by
  cases hg : S.get q with
  | none =>
    unfold J.get at hg
    have := List.find?_eq_none.1 hg _ (List.getElem_mem hk)
    simp at this
    exact absurd e this
  | some f =>
    obtain ⟨a, b⟩ := get_mem hg
    rw [key_inj h.nodup a (List.getElem_mem hk) (b.trans e.symm)]
theorem at_cases {S : J} (h : S.Ok) (q : Int) : (S.at q = -1 ∧ S.get q = none) ∨ ∃ k, ∃ hk : k < S.held.length, S.at q = k ∧ S.held[k].q = q ∧ S.get q = some S.held[k] := by
  rcases idx_cases S.held (fun f => f.q == q) with ⟨h1, h2⟩ | ⟨k, hk, h1, h2⟩
  · left
    refine ⟨h1, ?_⟩
    unfold J.get
    rw [List.find?_eq_none]
    intro x hx
    rw [h2 x hx]
    simp
  · right
    have hq : S.held[k].q = q := by simpa using h2
    exact ⟨k, hk, h1, hq, get_of h hk hq⟩
theorem place_cases (S : J) (q : Int) : (S.place q = -1 ∧ S.has q = false) ∨ ∃ k, ∃ hk : k < S.links.length, S.place q = k ∧ S.links[k].1 = q ∧ S.has q = true := by
  rcases idx_cases S.links (fun p => p.1 == q) with ⟨h1, h2⟩ | ⟨k, hk, h1, h2⟩
  · left
    refine ⟨h1, ?_⟩
    cases hh : S.has q with
    | false => rfl
    | true =>
      rw [has_keys] at hh
      simp at hh
      obtain ⟨x, hx⟩ := hh
      have := h2 _ hx
      simp at this
  · right
    have hq : S.links[k].1 = q := by simpa using h2
    refine ⟨k, hk, h1, hq, ?_⟩
    rw [has_keys]
    simp only [List.contains_iff_mem, List.mem_map]
    exact ⟨_, List.getElem_mem hk, hq⟩

/-- what m gives. -/
def J.mI (S : J) : Int := if S.links.any (fun p => decide (p.2 < 0)) then 0 else minS S.R S.next S.links
def J.mB (S : J) : Bool := !S.links.any (fun p => decide (p.2 < 0)) && decide (0 < S.links.length)
theorem m_min {S : J} (h : S.Ok) : S.mB = true → S.upto = S.mI := by
  intro hb
  unfold J.mB at hb
  simp only [Bool.and_eq_true, Bool.not_eq_true', decide_eq_true_eq] at hb
  obtain ⟨hany, hl⟩ := hb
  unfold J.upto uptoL J.mI
  rw [hany]
  simp only [Bool.false_eq_true, if_false]
  have : minS S.R S.next S.links ≠ S.R := by
    intro e
    have hm : sgn S.R S.next S.links[0].2 ∈ S.links.map fun p => sgn S.R S.next p.2 := List.mem_map.2 ⟨_, List.getElem_mem hl, rfl⟩
    have h1 := foldl_min_mem (l := S.links.map fun p => sgn S.R S.next p.2) S.R _ hm
    have h2 := sgn_bd (n := S.next) (q := S.links[0].2) h.isRing
    have h3 := h.r0
    unfold minS at e
    omega
  unfold minS at this ⊢
  rw [if_neg this]
theorem m_none {S : J} : S.mB = false → S.upto = -1 := by
  intro hb
  unfold J.mB at hb
  unfold J.upto uptoL
  cases hany : S.links.any (fun p => decide (p.2 < 0)) with
  | true => rfl
  | false =>
    rw [hany] at hb
    simp at hb
    rw [hb]
    simp
/-- the code's own tests say the same. -/
theorem m_go {S : J} (h : S.Ok) : (S.mB = true ∧ 0 ≤ S.mI ∧ S.upto = S.mI) ∨ (S.mB = true ∧ S.mI < 0 ∧ S.upto < 0) ∨ (S.mB = false ∧ S.upto = -1) := by
  cases hb : S.mB with
  | false => exact .inr (.inr ⟨rfl, m_none hb⟩)
  | true =>
    have := m_min h hb
    by_cases c : 0 ≤ S.mI
    · exact .inl ⟨rfl, c, this⟩
    · exact .inr (.inl ⟨rfl, by omega, by omega⟩)
theorem m_bd {S : J} (h : S.Ok) : -16777216 ≤ S.mI ∧ S.mI ≤ 16777216 := by
  have hr := h.r0
  unfold J.mI
  split
  · omega
  · have := minS_bd (n := S.next) h.isRing S.links
    omega

/-- a fragment is taken out, by its place. -/
def J.outAt (S : J) (k : Nat) : J := { S with held := outL S.held k }
theorem out_sub {α : Type} (l : List α) (k : Nat) : (outL l k).Sublist l := by
  unfold outL
  have : l.take k ++ l.drop k = l := List.take_append_drop k l
  conv => rhs; rw [← this]
  refine (List.Sublist.refl _).append ?_
  have e : l.drop (k + 1) = (l.drop k).drop 1 := by rw [List.drop_drop]
  rw [e]
  exact List.drop_sublist 1 _
theorem outAt_ok {S : J} (h : S.Ok) (k : Nat) : (S.outAt k).Ok := sub_ok h (outL S.held k) (out_sub _ _) S.next h.next0 h.next1
/-- the numbers from next on, one by one. -/
theorem clear_step {S : J} (h : S.Ok) (i : Nat) (hi : (i : Int) < S.R) {k : Nat} (hk : k < (fromL S.R S.next i S.held).length) (hq : (fromL S.R S.next i S.held)[k].q = pos S.R S.next i) : outL (fromL S.R S.next i S.held) k = fromL S.R S.next ((i + 1 : Nat) : Int) S.held := by
  have hn : ((fromL S.R S.next i S.held).map (·.q)).Nodup := h.nodup.sublist (List.filter_sublist.map _)
  rw [out_eq (fun f => f.q) _ k hk hn]
  simp only [hq]
  exact from_succ h i hi
theorem clear_one {S : J} (h : S.Ok) {k : Nat} (hk : k < S.held.length) (hq : S.held[k].q = S.next) : outL S.held k = fromL S.R S.next 1 S.held := by
  have h1 := clear_step h 0 (by have := h.r0; omega) (k := k) (by rw [show ((0 : Nat) : Int) = 0 from rfl, from_zero h.isRing]; exact hk)
  simp only [show ((0 : Nat) : Int) = 0 from rfl, from_zero h.isRing, pos_zero h.next0 h.next1, Nat.zero_add] at h1
  exact h1 hq
theorem from_cnt {S : J} (h : S.Ok) {i : Nat} (hi : (i : Int) < S.R) (hg : (S.get (pos S.R S.next i)).isSome = true) : (fromL S.R S.next i S.held).length = (fromL S.R S.next ((i + 1 : Nat) : Int) S.held).length + 1 := by
  obtain ⟨f, hf⟩ := Option.isSome_iff_exists.1 hg
  obtain ⟨a, b⟩ := get_mem hf
  have hmem : f ∈ fromL S.R S.next i S.held := by
    unfold fromL
    rw [List.mem_filter]
    refine ⟨a, ?_⟩
    rw [b, off_pos h.isRing (by omega) hi]
    simp
  obtain ⟨k, hk, e⟩ := List.getElem_of_mem hmem
  have := clear_step h i hi hk (by rw [e]; exact b)
  rw [← this, out_len hk]
theorem from_all {S : J} (h : S.Ok) : ∀ (n : Nat), (n : Int) ≤ S.R → (∀ j, j < n → (S.get (pos S.R S.next j)).isSome = true) → (fromL S.R S.next n S.held).length + n = S.held.length
  | 0, _, _ => by rw [show ((0 : Nat) : Int) = 0 from rfl, from_zero h.isRing]; rfl
  | n + 1, hn, hg => by
    have ih := from_all h n (by omega) (fun j hj => hg j (by omega))
    have := from_cnt h (i := n) (by omega) (hg n (by omega))
    omega
theorem clear_get {S : J} (h : S.Ok) {i : Nat} (hi : (i : Int) < S.R) : J.get { S with held := fromL S.R S.next i S.held } (pos S.R S.next i) = S.get (pos S.R S.next i) := by
  cases hg : S.get (pos S.R S.next i) with
  | none =>
    unfold J.get at hg ⊢
    rw [List.find?_eq_none] at hg ⊢
    intro x hx
    exact hg x (List.filter_sublist.subset hx)
  | some f =>
    obtain ⟨a, b⟩ := get_mem hg
    have hmem : f ∈ fromL S.R S.next i S.held := by
      unfold fromL
      rw [List.mem_filter]
      refine ⟨a, ?_⟩
      rw [b, off_pos h.isRing (by omega) hi]
      simp
    have hok : J.Ok { S with held := fromL S.R S.next i S.held } := sub_ok h _ List.filter_sublist S.next h.next0 h.next1
    obtain ⟨k, hk, e⟩ := List.getElem_of_mem hmem
    have := get_of hok hk (q := pos S.R S.next i) (by show (fromL S.R S.next i S.held)[k].q = _; rw [e]; exact b)
    rw [this]
    exact congrArg some e
/-- what letGo does where all up to k are held. -/
theorem letGo_all {S : J} (h : S.Ok) {n : Nat} (hn : (n : Int) ≤ S.R) (hg : ∀ j, j < n → (S.get (pos S.R S.next j)).isSome = true) : S.letGo n = { S with held := fromL S.R S.next n S.held, lost := S.lost + n, next := pos S.R S.next n } := by
  have := from_all h n hn hg
  unfold J.letGo
  congr 1
  omega
theorem letGo_miss {S : J} (h : S.Ok) {n : Nat} (hn : (n : Int) < S.R) (hg : ∀ j, j < n → (S.get (pos S.R S.next j)).isSome = true) (hm : S.get (pos S.R S.next n) = none) : S.letGo ((n : Int) + 1) = { S with held := fromL S.R S.next n S.held, lost := S.lost + n, next := pos S.R S.next ((n : Int) + 1) } := by
  have h1 := from_all h n (by omega) hg
  have h2 : fromL S.R S.next ((n : Int) + 1) S.held = fromL S.R S.next n S.held := by
    unfold fromL
    refine List.filter_congr fun f hf => ?_
    have hne : off S.R S.next f.q ≠ n := by
      intro e
      have hq := h.frag f hf
      have : f.q = pos S.R S.next n := by rw [← e, pos_off h.isRing hq.1 hq.2.1]
      unfold J.get at hm
      have := List.find?_eq_none.1 hm f hf
      simp at this
      omega
    rw [Bool.eq_iff_iff]
    simp
    omega
  unfold J.letGo
  rw [h2]
  congr 1
  omega
theorem letGo_least {S : J} (h : S.Ok) {k : Nat} (hk : k < S.held.length) (hl : off S.R S.next S.held[k].q = S.least) : S.letGo (S.least + 1) = { S with held := outL S.held k, lost := S.lost + 1, next := pos S.R S.next (S.least + 1) } := by
  have h2 : fromL S.R S.next (S.least + 1) S.held = outL S.held k := by
    rw [out_eq (fun f => f.q) _ k hk h.nodup]
    unfold fromL
    refine List.filter_congr fun f hf => ?_
    have hle : S.least ≤ off S.R S.next f.q := foldl_min_mem _ _ (List.mem_map.2 ⟨f, hf, rfl⟩)
    have hq := h.frag f hf
    have hqk := h.frag _ (List.getElem_mem hk)
    rw [Bool.eq_iff_iff]
    simp only [decide_eq_true_eq, bne_iff_ne, ne_eq]
    constructor
    · intro c e
      rw [e] at c
      omega
    · intro c
      by_cases e : off S.R S.next f.q = S.least
      · exact absurd (off_inj h.isRing hq.1 hq.2.1 hqk.1 hqk.2.1 (e.trans hl.symm)) c
      · omega
  have h3 := out_len hk
  unfold J.letGo
  rw [h2]
  congr 1
  omega
theorem least_at {S : J} (h : S.Ok) {k : Nat} (hk : k < S.held.length) (hl : ∀ j (hj : j < S.held.length), off S.R S.next S.held[k].q ≤ off S.R S.next S.held[j].q) : off S.R S.next S.held[k].q = S.least := by
  obtain ⟨f, hf, e⟩ := least_mem h (by intro c; rw [c] at hk; simp at hk)
  obtain ⟨j, hj, rfl⟩ := List.getElem_of_mem hf
  have h1 := hl j hj
  have h2 : S.least ≤ off S.R S.next S.held[k].q := foldl_min_mem _ _ (List.mem_map.2 ⟨_, List.getElem_mem hk, rfl⟩)
  omega
theorem set_upd : ∀ (l : List (Int × Int)) (k : Nat) (hk : k < l.length) (x : Int), (l.map (·.1)).Nodup → l.set k (l[k].1, x) = updI l l[k].1 x
  | a :: l, 0, _, x, hn => by
    rw [List.map_cons, List.nodup_cons] at hn
    show (a.1, x) :: l = (if a.1 = a.1 then (a.1, x) else a) :: updI l a.1 x
    rw [if_pos rfl]
    congr 1
    unfold updI
    conv => lhs; rw [← List.map_id l]
    refine List.map_congr_left fun p hp => ?_
    rw [if_neg (fun e => hn.1 (List.mem_map.2 ⟨p, hp, e⟩))]
    rfl
  | a :: l, k + 1, hk, x, hn => by
    rw [List.map_cons, List.nodup_cons] at hn
    have hk' : k < l.length := by simpa using hk
    have ih := set_upd l k hk' x hn.2
    show a :: l.set k (l[k].1, x) = (if a.1 = l[k].1 then (l[k].1, x) else a) :: updI l l[k].1 x
    rw [ih, if_neg (fun e => hn.1 (List.mem_map.2 ⟨l[k], List.getElem_mem _, e.symm⟩))]
theorem upd_set {S : J} (h : S.Ok) {k : Nat} (hk : k < S.links.length) {q : Int} (e : S.links[k].1 = q) (x : Int) : S.links.set k (q, x) = updI S.links q x := by
  subst e
  exact set_upd _ k hk x h.lnodup

/-! the links in another order -/
def J.relink (S : J) (L : List (Int × Int)) : J := { S with links := L }
theorem upto_perm {R n : Int} {l l' : List (Int × Int)} (h : l.Perm l') : uptoL R n l = uptoL R n l' := by
  have h1 : l.any (fun p => decide (p.2 < 0)) = l'.any (fun p => decide (p.2 < 0)) := by
    rw [Bool.eq_iff_iff, List.any_eq_true, List.any_eq_true]
    exact ⟨fun ⟨x, a, b⟩ => ⟨x, h.mem_iff.1 a, b⟩, fun ⟨x, a, b⟩ => ⟨x, h.mem_iff.2 a, b⟩⟩
  unfold uptoL
  rw [h1, foldl_min_perm (h.map fun p => sgn R n p.2)]
theorem relink_scan (S : J) (L : List (Int × Int)) : ∀ (fuel i : Nat) (d : List UInt8), (S.relink L).scan fuel i d = S.scan fuel i d
  | 0, _, _ => rfl
  | fuel + 1, i, d => by
    rw [scan_succ, scan_succ]
    show (match S.get (pos S.R S.next i) with | none => _ | some f => _) = _
    cases S.get (pos S.R S.next i) with
    | none => rfl
    | some f =>
      simp only
      rw [relink_scan S L fuel (i + 1)]
theorem relink_step {S : J} {L : List (Int × Int)} (h : L.Perm S.links) : (S.relink L).step = S.step.map fun r => (r.1.relink L, r.2) := by
  have hu : (S.relink L).upto = S.upto := upto_perm h
  have hf : ∀ f m, (S.relink L).first f m = ((S.first f m).1.relink L, (S.first f m).2) := by
    intro f m
    unfold J.first
    by_cases c : f.b = false
    · rw [if_pos c, if_pos c]; rfl
    · rw [if_neg c, if_neg c]
      have hsc : (S.relink L).scan ((S.relink L).held.length + 1) 0 [] = S.scan (S.held.length + 1) 0 [] := relink_scan S L _ _ _
      simp only [hsc]
      generalize S.scan (S.held.length + 1) 0 [] = r
      have hg : ∀ q, (S.relink L).get q = S.get q := fun _ => rfl
      simp only [hg]
      show (if r.2.2 = true then _ else if (S.get (pos S.R S.next r.2.1)).isSome = true then _ else _) = _
      by_cases c1 : r.2.2 = true
      · rw [if_pos c1, if_pos c1]; rfl
      · rw [if_neg c1, if_neg c1]
        by_cases c2 : (S.get (pos S.R S.next r.2.1)).isSome = true
        · rw [if_pos c2, if_pos c2]; rfl
        · rw [if_neg c2, if_neg c2]
          by_cases c3 : (r.2.1 : Int) ≤ m
          · rw [if_pos c3, if_pos c3]; rfl
          · rw [if_neg c3, if_neg c3]
  unfold J.step
  rw [hu]
  show (match S.get S.next with | some f => _ | none => _) = _
  cases S.get S.next with
  | some f =>
    simp only [hf]
    split <;> rfl
  | none =>
    simp only
    split <;> rfl
theorem relink_runF {L : List (Int × Int)} : ∀ (fuel : Nat) (S : J), L.Perm S.links → S.Ok → J.runF fuel (S.relink L) = ((J.runF fuel S).1.relink L, (J.runF fuel S).2)
  | 0, _, _, _ => rfl
  | fuel + 1, S, h, hok => by
    have hs := relink_step h
    cases hT : S.step with
    | some r =>
      obtain ⟨T, o⟩ := r
      rw [hT] at hs
      obtain ⟨k1, _, _, _, _, _, k7⟩ := step_down hok hT
      rw [runF_step hT, runF_step hs, relink_runF fuel T (by rw [k7]; exact h) k1]
    | none =>
      rw [hT] at hs
      by_cases hl : (S.held.length : Int) ≤ S.most
      · rw [runF_wait hT hl, runF_wait (S := S.relink L) hs hl]
      · obtain ⟨k1, _, _⟩ := over_down hok (by omega)
        rw [runF_over hT hl, runF_over (S := S.relink L) hs hl]
        exact relink_runF fuel (S.letGo (S.least + 1)) h k1
theorem relink_ok {S : J} {L : List (Int × Int)} (h : L.Perm S.links) (hok : S.Ok) : (S.relink L).Ok :=
  ⟨hok.ring, hok.next0, hok.next1, hok.most0, hok.most1, hok.nodup, hok.frag, (h.map _).nodup_iff.2 hok.lnodup, fun p hp => hok.link p (h.mem_iff.1 hp), by show L.length ≤ 8; rw [h.length_eq]; exact hok.links8, hok.count, hok.lost0, hok.lost1⟩
theorem relink_run {S : J} {L : List (Int × Int)} (h : L.Perm S.links) (hok : S.Ok) : (S.relink L).run = (S.run.1.relink L, S.run.2) := by
  have hok' := relink_ok h hok
  have h1 : (S.relink L).mu = S.mu := by
    have hu : (S.relink L).upto = S.upto := upto_perm h
    unfold J.mu
    rw [hu]
    rfl
  unfold J.run
  rw [h1, relink_runF _ S h hok]
theorem relink_has {S : J} {L : List (Int × Int)} (h : L.Perm S.links) (q : Int) : (S.relink L).has q = S.has q := by
  rw [has_keys, has_keys, Bool.eq_iff_iff, List.contains_iff_mem, List.contains_iff_mem]
  exact (h.map _).mem_iff
/-- two reassemblies that differ in their links' order. -/
def Twin (S T : J) : Prop := ∃ L, L.Perm S.links ∧ T = S.relink L
theorem Twin.refl (S : J) : Twin S S := ⟨S.links, List.Perm.refl _, rfl⟩
theorem Twin.put {S T : J} (h : Twin S T) (hok : S.Ok) (hc : S.held.length ≤ 128) (hl : S.lost + S.held.length < 1099511627776) (link : Int) (f : Fr) :
    putE T link f = putE S link f ∧ putO T link f = putO S link f ∧ Twin (putS S link f) (putS T link f) := by
  obtain ⟨L, hp, rfl⟩ := h
  have he : putE (S.relink L) link f = putE S link f := by
    unfold putE
    rw [relink_has hp]
    rfl
  refine ⟨he, ?_⟩
  unfold putO putS
  rw [he]
  by_cases c : putE S link f = 0
  · rw [if_pos c, if_pos c, if_pos c, if_pos c]
    have hm : mayF S.short f = true := by
      unfold putE at c
      split at c
      · cases c
      · split at c
        · cases c
        · rename_i hh; simpa using hh
    have hlay : (S.relink L).lay link f = (S.lay link f).relink (updI L link f.q) := by
      rw [lay_eq, lay_eq]
      show (if (S.get f.q).isSome = true ∨ S.R / 2 ≤ off S.R S.next f.q then _ else _) = _
      have e : ((S.upd link f).get f.q) = S.get f.q := rfl
      rw [e]
      split <;> rfl
    have hpu : (updI L link f.q).Perm (S.lay link f).links := by
      rw [(lay_keys S link f).1]
      exact hp.map _
    unfold J.put
    rw [hlay, relink_run hpu (lay_ok hok link hm hc hl)]
    refine ⟨rfl, updI L link f.q, ?_, rfl⟩
    rw [(run_k (lay_ok hok link hm hc hl)).links]
    exact hpu
  · rw [if_neg c, if_neg c, if_neg c, if_neg c]
    exact ⟨rfl, L, hp, rfl⟩
theorem Twin.drop {S T : J} (h : Twin S T) (link : Int) : dropE T link = dropE S link ∧ Twin (dropS S link) (dropS T link) := by
  obtain ⟨L, hp, rfl⟩ := h
  unfold dropE dropS
  rw [relink_has hp]
  refine ⟨rfl, ?_⟩
  split
  · exact ⟨_, hp.filter _, rfl⟩
  · exact ⟨L, hp, rfl⟩
theorem Twin.add {S T : J} (h : Twin S T) (link : Int) : addE T link = addE S link ∧ ∀ L', addE S link = 0 → L'.Perm (T.links ++ [(link, -1)]) → Twin (addS S link) { T with links := L' } := by
  obtain ⟨L, hp, rfl⟩ := h
  have e : addE (S.relink L) link = addE S link := by
    unfold addE
    rw [relink_has hp]
    show (if _ then _ else if 8 ≤ L.length then _ else _) = _
    rw [hp.length_eq]
  refine ⟨e, fun L' h0 hL' => ⟨L', ?_, ?_⟩⟩
  · unfold addS
    rw [if_pos h0]
    exact hL'.trans (hp.append_right _)
  · unfold addS
    rw [if_pos h0]
    rfl
end Plain
end Go.Proofs.Ytcfgbfabokhjcaa

/- The plain mathematics of chapter 19, second part: how a reassembly goes on. -/
import Derived.Test.YtcfgbfabokhjcaaFirst
namespace Go.Proofs.Ytcfgbfabokhjcaa
namespace Plain
open Go

theorem from_lt {R n k : Int} {l : List Fr} {f : Fr} (hf : f ∈ l) (h : off R n f.q < k) : (fromL R n k l).length < l.length := by
  unfold fromL
  rw [List.length_filter_lt_length_iff_exists]
  exact ⟨f, hf, by simp; omega⟩

theorem first_scan {S : J} (h : S.Ok) {f : Fr} (hg : S.get S.next = some f) : 1 ≤ (S.scan (S.held.length + 1) 0 []).2.1 := by
  have e0 : pos S.R S.next ((0 : Nat) : Int) = S.next := pos_zero h.next0 h.next1
  have hg' : S.get (pos S.R S.next ((0 : Nat) : Int)) = some f := by rw [e0]; exact hg
  by_cases he : f.e = true
  · rw [scan_end hg' (by simp) he]
    simp
  · have he' : f.e = false := by simpa using he
    rw [scan_on hg' (by simp) he']
    generalize [] ++ f.d.data.toList = d
    have key : ∀ (fuel i : Nat) (d : List UInt8), i ≤ (S.scan fuel i d).2.1 := by
      intro fuel
      induction fuel with
      | zero => intro i d; simp [J.scan]
      | succ fuel ih =>
        intro i d
        rw [scan_succ]
        cases S.get (pos S.R S.next i) with
        | none => simp
        | some f =>
          simp only
          split
          · simp
          · split
            · simp
            · exact Nat.le_trans (Nat.le_succ i) (ih _ _)
    exact key _ _ _

/-- where the first goes on, it lets something go, or tells it; else nothing is turned. -/
theorem first_cases {S : J} (h : S.Ok) {f : Fr} (hg : S.get S.next = some f) (m : Int) :
    (∃ k : Int, 1 ≤ k ∧ k ≤ 131 ∧ S.first f m = (S.letGo k, none, true)) ∨ (∃ (k : Nat) (s : ByteArray), 1 ≤ k ∧ k ≤ 131 ∧ S.first f m = (S.tell k, some s, true)) ∨ S.first f m = (S, none, false) := by
  have h1 := first_scan h hg
  have h2 := scan_n S (S.held.length + 1) 0 []
  have h3 := h.count
  unfold J.first
  by_cases hb : f.b = false
  · rw [if_pos hb]
    exact .inl ⟨1, by omega, by omega, rfl⟩
  rw [if_neg hb]
  generalize S.scan (S.held.length + 1) 0 [] = r at *
  simp only
  by_cases c1 : r.2.2 = true
  · rw [if_pos c1]
    exact .inr (.inl ⟨r.2.1, _, h1, by omega, rfl⟩)
  rw [if_neg c1]
  by_cases c2 : (S.get (pos S.R S.next r.2.1)).isSome = true
  · rw [if_pos c2]
    exact .inl ⟨r.2.1, by omega, by omega, rfl⟩
  rw [if_neg c2]
  by_cases c3 : (r.2.1 : Int) ≤ m
  · rw [if_pos c3]
    exact .inl ⟨r.2.1 + 1, by omega, by omega, rfl⟩
  rw [if_neg c3]
  exact .inr (.inr rfl)

theorem first_next {S : J} (h : S.Ok) {f : Fr} (hg : S.get S.next = some f) : f ∈ S.held ∧ off S.R S.next f.q = 0 := by
  obtain ⟨a, b⟩ := get_mem hg
  refine ⟨a, ?_⟩
  rw [b]
  exact (off_zero h.isRing h.next0 h.next1 h.next0 h.next1).2 rfl

theorem mu_le (S : J) : S.mu ≤ 2 * S.held.length + 1 := by
  unfold J.mu
  split
  · omega
  · split <;> omega
theorem mu_ge (S : J) : 2 * S.held.length ≤ S.mu := by unfold J.mu; omega

theorem tell_ok {S : J} (h : S.Ok) (k : Int) : (S.tell k).Ok := by
  have hp := pos_bd (n := S.next) (q := k) h.isRing
  exact sub_ok h _ List.filter_sublist _ hp.1 hp.2

theorem foldl_min_in {l : List Int} : ∀ a : Int, l.foldl min a = a ∨ l.foldl min a ∈ l := by
  induction l with
  | nil => intro a; exact .inl rfl
  | cons x l ih =>
    intro a
    rw [List.foldl_cons]
    rcases ih (min a x) with h | h
    · rw [h]
      by_cases e : a ≤ x
      · left; omega
      · right; rw [show min a x = x by omega]; exact List.mem_cons_self
    · right; exact List.mem_cons_of_mem _ h
theorem least_bd {S : J} (h : S.Ok) : 0 ≤ S.least ∧ S.least ≤ S.R := by
  refine ⟨foldl_min_lo (fun x hx => ?_) _ (by have := h.r0; omega), foldl_min_le _ _⟩
  obtain ⟨f, _, rfl⟩ := List.mem_map.1 hx
  exact (off_bd h.isRing).1
theorem least_mem {S : J} (h : S.Ok) (hne : S.held ≠ []) : ∃ f ∈ S.held, off S.R S.next f.q = S.least := by
  cases hl : S.held with
  | nil => exact absurd hl hne
  | cons a l =>
    rcases foldl_min_in (l := S.held.map fun f => off S.R S.next f.q) S.R with e | e
    · have h1 : S.least ≤ off S.R S.next a.q := foldl_min_mem _ _ (List.mem_map.2 ⟨a, by rw [hl]; exact List.mem_cons_self, rfl⟩)
      have h2 := (off_bd (n := S.next) (q := a.q) h.isRing).2
      have h3 : S.least = S.R := e
      omega
    · obtain ⟨f, hf, e⟩ := List.mem_map.1 e
      exact ⟨f, by rw [← hl]; exact hf, e⟩
theorem least_lt {S : J} (h : S.Ok) (hne : S.held ≠ []) : S.least < S.R := by
  obtain ⟨f, _, e⟩ := least_mem h hne
  have := (off_bd (n := S.next) (q := f.q) h.isRing).2
  omega
theorem upto_bd {S : J} (h : S.Ok) : -16777216 ≤ S.upto ∧ S.upto < S.R / 2 := by
  have hr := h.r0
  unfold J.upto uptoL
  split
  · omega
  · simp only
    have hb := minS_bd (n := S.next) h.isRing S.links
    unfold minS at hb
    split
    · omega
    · rename_i hne
      rcases foldl_min_in (l := S.links.map fun p => sgn S.R S.next p.2) S.R with e | e
      · exact absurd e hne
      · obtain ⟨p, _, e⟩ := List.mem_map.1 e
        have := sgn_bd (n := S.next) (q := p.2) h.isRing
        omega
theorem sgn_behind {R n q u : Int} (h : IsRing R) (ho : off R n q = u) : sgn R (pos R n (u + 1)) q = -1 := by
  subst ho
  unfold sgn off pos
  rcases h with rfl | rfl
  · have : (q - (n + ((q - n) % 4096 + 1)) % 4096) % 4096 = 4095 := by omega
    rw [this]; rfl
  · have : (q - (n + ((q - n) % 16777216 + 1)) % 16777216) % 16777216 = 16777215 := by omega
    rw [this]; rfl
/-- the jump: then the next one is held, or nothing more is known to be lost. -/
theorem jump_mu {S : J} (h : S.Ok) (hg : S.get S.next = none) (h0 : 0 ≤ S.upto) : J.mu { S with next := pos S.R S.next (min (S.upto + 1) S.least) } < S.mu := by
  have hm : S.mu = 2 * S.held.length + 1 := by unfold J.mu; rw [hg]; simp [h0]
  rw [hm]
  show 2 * S.held.length + _ < _
  have hu := upto_bd h
  have hr := h.r0
  have hlb := least_bd h
  by_cases hle : S.least ≤ S.upto + 1
  · rw [show min (S.upto + 1) S.least = S.least by omega]
    have hne : S.held ≠ [] := by
      intro e
      have : S.least = S.R := by unfold J.least leastL; rw [e]; rfl
      omega
    obtain ⟨f, hf, e⟩ := least_mem h hne
    have hq := h.frag f hf
    have e2 : pos S.R S.next S.least = f.q := by rw [← e]; exact pos_off h.isRing hq.1 hq.2.1
    have : (S.held.find? fun g => g.q == f.q).isSome = true := by
      rw [List.find?_isSome]
      exact ⟨f, hf, by simp⟩
    have hs : (J.get { S with next := pos S.R S.next S.least } (pos S.R S.next S.least)).isSome = true := by
      show (S.held.find? fun g => g.q == pos S.R S.next S.least).isSome = true
      rw [e2]
      exact this
    rw [if_pos hs]
    omega
  · rw [show min (S.upto + 1) S.least = S.upto + 1 by omega]
    have hneg : ¬ 0 ≤ J.upto { S with next := pos S.R S.next (S.upto + 1) } := by
      -- the link that is the least
      have hany : S.links.any (fun p => decide (p.2 < 0)) = false := by
        cases hh : S.links.any (fun p => decide (p.2 < 0)) with
        | false => rfl
        | true => unfold J.upto uptoL at h0; rw [hh] at h0; simp at h0
      have hup : S.upto = minS S.R S.next S.links := by
        unfold J.upto uptoL at h0 ⊢
        rw [hany] at h0 ⊢
        simp only [Bool.false_eq_true, if_false] at h0 ⊢
        split at h0
        · omega
        · rename_i hh; rw [if_neg hh]; rfl
      have hex : ∃ p ∈ S.links, sgn S.R S.next p.2 = S.upto := by
        rcases foldl_min_in (l := S.links.map fun p => sgn S.R S.next p.2) S.R with e | e
        · have : S.upto = S.R := hup.trans e
          omega
        · obtain ⟨p, hp, e⟩ := List.mem_map.1 e
          exact ⟨p, hp, by rw [hup]; exact e⟩
      obtain ⟨p, hp, e⟩ := hex
      have hoff : off S.R S.next p.2 = S.upto := by
        have := off_bd (n := S.next) (q := p.2) h.isRing
        unfold sgn at e
        split at e
        · omega
        · exact e
      have hs : sgn S.R (pos S.R S.next (S.upto + 1)) p.2 = -1 := sgn_behind h.isRing hoff
      intro hge0
      have hge : 0 ≤ uptoL S.R (pos S.R S.next (S.upto + 1)) S.links := hge0
      unfold uptoL at hge
      rw [hany] at hge
      simp only [Bool.false_eq_true, if_false] at hge
      have hmin : (S.links.map fun p => sgn S.R (pos S.R S.next (S.upto + 1)) p.2).foldl min S.R ≤ -1 := by
        rw [← hs]
        exact foldl_min_mem _ _ (List.mem_map.2 ⟨p, hp, rfl⟩)
      split at hge
      · omega
      · omega
    rw [if_neg hneg]
    split <;> omega

/-- one step: what it keeps. -/
theorem step_down {S T : J} {o : Option ByteArray} (h : S.Ok) (hs : S.step = some (T, o)) : T.Ok ∧ T.mu < S.mu ∧ T.held.length + (if o.isSome = true then 1 else 0) ≤ S.held.length ∧ T.most = S.most ∧ T.R = S.R ∧ T.short = S.short ∧ T.links = S.links := by
  unfold J.step at hs
  cases hg : S.get S.next with
  | some f =>
    rw [hg] at hs
    simp only at hs
    obtain ⟨hf, h0⟩ := first_next h hg
    have hmu : S.mu = 2 * S.held.length := by unfold J.mu; rw [hg]; simp
    rcases first_cases h hg S.upto with ⟨k, k1, k2, e⟩ | ⟨k, s, k1, k2, e⟩ | e
    · rw [e] at hs
      simp at hs
      obtain ⟨rfl, rfl⟩ := hs
      have hl : (S.letGo k).held.length < S.held.length := from_lt hf (by omega)
      have := mu_le (S.letGo k)
      refine ⟨letGo_ok h k, by omega, by simp; omega, rfl, rfl, rfl, rfl⟩
    · rw [e] at hs
      simp at hs
      obtain ⟨rfl, rfl⟩ := hs
      have hl : (S.tell k).held.length < S.held.length := from_lt hf (by omega)
      have := mu_le (S.tell k)
      refine ⟨tell_ok h k, by omega, by simp; omega, rfl, rfl, rfl, rfl⟩
    · rw [e] at hs
      simp at hs
  | none =>
    rw [hg] at hs
    simp only at hs
    by_cases h0 : 0 ≤ S.upto
    · rw [if_pos h0] at hs
      simp at hs
      obtain ⟨rfl, rfl⟩ := hs
      have hp := pos_bd (n := S.next) (q := min (S.upto + 1) S.least) h.isRing
      exact ⟨sub_ok h S.held (List.Sublist.refl _) _ hp.1 hp.2, jump_mu h hg h0, by simp, rfl, rfl, rfl, rfl⟩
    · rw [if_neg h0] at hs
      cases hs
theorem over_down {S : J} (h : S.Ok) (hlen : S.most < S.held.length) : (S.letGo (S.least + 1)).Ok ∧ (S.letGo (S.least + 1)).mu < S.mu ∧ (S.letGo (S.least + 1)).held.length < S.held.length := by
  have hne : S.held ≠ [] := by
    intro e
    rw [e] at hlen
    have := h.most0
    simp at hlen; omega
  obtain ⟨f, hf, e⟩ := least_mem h hne
  have hl : (S.letGo (S.least + 1)).held.length < S.held.length := from_lt hf (by omega)
  have h1 := mu_le (S.letGo (S.least + 1))
  have h2 := mu_ge S
  exact ⟨letGo_ok h _, by omega, hl⟩

theorem runF_step {S T : J} {o : Option ByteArray} (hs : S.step = some (T, o)) (fuel : Nat) : J.runF (fuel + 1) S = ((J.runF fuel T).1, o.toList ++ (J.runF fuel T).2) := by
  show (match S.step with | some (T, o) => _ | none => _) = _
  rw [hs]
theorem runF_wait {S : J} (hs : S.step = none) (hl : (S.held.length : Int) ≤ S.most) (fuel : Nat) : J.runF (fuel + 1) S = (S, []) := by
  show (match S.step with | some (T, o) => _ | none => _) = _
  rw [hs]
  exact if_pos hl
theorem runF_over {S : J} (hs : S.step = none) (hl : ¬ (S.held.length : Int) ≤ S.most) (fuel : Nat) : J.runF (fuel + 1) S = J.runF fuel (S.letGo (S.least + 1)) := by
  show (match S.step with | some (T, o) => _ | none => _) = _
  rw [hs]
  exact if_neg hl
/-- fuel that is enough is enough. -/
theorem runF_enough : ∀ (a b : Nat) (S : J), S.Ok → S.mu < a → S.mu < b → J.runF a S = J.runF b S
  | 0, _, _, _, h, _ => by omega
  | _ + 1, 0, _, _, _, h => by omega
  | a + 1, b + 1, S, hok, ha, hb => by
    cases hs : S.step with
    | some r =>
      obtain ⟨T, o⟩ := r
      obtain ⟨k1, k2, _⟩ := step_down hok hs
      rw [runF_step hs, runF_step hs, runF_enough a b T k1 (by omega) (by omega)]
    | none =>
      by_cases hl : (S.held.length : Int) ≤ S.most
      · rw [runF_wait hs hl, runF_wait hs hl]
      · obtain ⟨k1, k2, _⟩ := over_down hok (by omega)
        rw [runF_over hs hl, runF_over hs hl, runF_enough a b _ k1 (by omega) (by omega)]
theorem run_step {S T : J} {o : Option ByteArray} (h : S.Ok) (hs : S.step = some (T, o)) : S.run = (T.run.1, o.toList ++ T.run.2) := by
  obtain ⟨k1, k2, _⟩ := step_down h hs
  unfold J.run
  rw [runF_step hs, runF_enough S.mu (T.mu + 1) T k1 k2 (by omega)]
theorem run_wait {S : J} (hs : S.step = none) (hl : (S.held.length : Int) ≤ S.most) : S.run = (S, []) := runF_wait hs hl _
theorem run_over {S : J} (h : S.Ok) (hs : S.step = none) (hl : ¬ (S.held.length : Int) ≤ S.most) : S.run = (S.letGo (S.least + 1)).run := by
  obtain ⟨k1, k2, _⟩ := over_down h (by omega)
  unfold J.run
  rw [runF_over hs hl, runF_enough S.mu ((S.letGo (S.least + 1)).mu + 1) _ k1 k2 (by omega)]
end Plain
end Go.Proofs.Ytcfgbfabokhjcaa

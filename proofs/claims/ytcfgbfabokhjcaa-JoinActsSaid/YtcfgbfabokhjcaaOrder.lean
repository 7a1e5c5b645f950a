/- Chapter 19: the plain law of JoinOrder: packets of one fragment, each on a link of its own, come in any row. No program in sight. -/
import Derived.Test.YtcfgbfabokhjcaaGot
import Derived.Test.YtcfgbfabokhjcaaBase4
namespace Go.Proofs.Ytcfgbfabokhjcaa
namespace Plain
open Go

def pd (j : Nat) : ByteArray := ⟨#[112]⟩ ++ dec j
theorem pd_size (j : Nat) : (pd j).size ≤ 3 := by
  have := dec_size j
  unfold pd
  rw [ByteArray.size_append]
  show 1 + _ ≤ 3
  omega
def wp (j : Nat) : Fr := wholeF j (pd j)
theorem wp_q (j : Nat) (h : j < 4096) : (wp j).q = j := by
  show (j : Int) % 4096 = j
  omega

/-- l: the numbers that are still to come; n: the next one. -/
structure Pre (k : Nat) (l : List Nat) (n : Nat) (S : J) : Prop where
  ring : S.R = 4096
  next : S.next = n
  most : S.most = 64
  short : S.short = true
  nk : n ≤ k
  k1 : 1 ≤ k
  k8 : k ≤ 8
  before : ∀ j, j < n → j ∉ l
  held : ∀ f, f ∈ S.held ↔ ∃ j, n ≤ j ∧ j < k ∧ j ∉ l ∧ f = wp j
  links : ∀ q x, (q, x) ∈ S.links ↔ ∃ j : Nat, j < k ∧ q = j ∧ x = if j ∈ l then -1 else (j : Int)
  lost : S.lost = 0
  ok : S.Ok

theorem Pre.count {k n : Nat} {l : List Nat} {S : J} (h : Pre k l n S) : S.held.length ≤ k := by
  have h1 : (S.held.map (·.q)).length ≤ ((List.range k).map (fun (j : Nat) => (j : Int))).length := by
    refine len_sub _ _ h.ok.nodup (fun x hx => ?_)
    obtain ⟨f, hf, rfl⟩ := List.mem_map.1 hx
    obtain ⟨j, _, hj, _, rfl⟩ := (h.held f).1 hf
    have := h.k8
    exact List.mem_map.2 ⟨j, List.mem_range.2 hj, (wp_q j (by omega)).symm⟩
  simpa using h1
theorem Pre.get_inv {k n : Nat} {l : List Nat} {S : J} (h : Pre k l n S) {j : Nat} {f : Fr} (hg : S.get j = some f) : n ≤ j ∧ j < k ∧ j ∉ l ∧ f = wp j := by
  obtain ⟨hf, hq⟩ := get_mem hg
  obtain ⟨i, h1, h2, h3, rfl⟩ := (h.held f).1 hf
  have := h.k8
  rw [wp_q i (by omega)] at hq
  have e : i = j := by omega
  subst e
  exact ⟨h1, h2, h3, rfl⟩
theorem Pre.get_some {k n : Nat} {l : List Nat} {S : J} (h : Pre k l n S) {j : Nat} (h1 : n ≤ j) (h2 : j < k) (h3 : j ∉ l) : S.get j = some (wp j) := by
  cases hg : S.get j with
  | some f => rw [(h.get_inv hg).2.2.2]
  | none =>
    unfold J.get at hg
    have := List.find?_eq_none.1 hg (wp j) ((h.held _).2 ⟨j, h1, h2, h3, rfl⟩)
    have hk := h.k8
    rw [wp_q j (by omega)] at this
    simp at this
theorem Pre.get_none {k n : Nat} {l : List Nat} {S : J} (h : Pre k l n S) {j : Nat} (h1 : j < n ∨ k ≤ j ∨ j ∈ l) : S.get j = none := by
  cases hg : S.get j with
  | none => rfl
  | some f =>
    obtain ⟨a, b, c, _⟩ := h.get_inv hg
    rcases h1 with h1 | h1 | h1
    · omega
    · omega
    · exact absurd h1 c
theorem Pre.wait {k n : Nat} {l : List Nat} {S : J} (h : Pre k l n S) (hs : n < k → n ∈ l) : S.run = (S, []) := by
  have hk := h.k8
  have hk1 := h.k1
  have hnk := h.nk
  have hg : S.get S.next = none := by
    rw [h.next]
    refine h.get_none ?_
    by_cases c : n < k
    · exact .inr (.inr (hs c))
    · exact .inr (.inl (by omega))
  have hu : ¬ 0 ≤ S.upto := by
    unfold J.upto uptoL
    by_cases c : S.links.any (fun p => decide (p.2 < 0)) = true
    · rw [if_pos c]; omega
    · rw [if_neg c]
      have hn : n = k := by
        by_cases d : n < k
        · exfalso
          refine c (List.any_eq_true.2 ⟨((n : Int), -1), (h.links _ _).2 ⟨n, d, rfl, ?_⟩, by simp⟩)
          rw [if_pos (hs d)]
        · omega
      have hm : ((((k - 1 : Nat) : Int)), ((k - 1 : Nat) : Int)) ∈ S.links := (h.links _ _).2 ⟨k - 1, by omega, rfl, by rw [if_neg (h.before _ (by omega))]⟩
      have h1 := foldl_min_mem (l := S.links.map fun p => sgn S.R S.next p.2) S.R _ (List.mem_map.2 ⟨_, hm, rfl⟩)
      have h2 : sgn S.R S.next ((k - 1 : Nat) : Int) = -1 := by
        rw [h.ring, h.next, hn]
        unfold sgn off
        have : (((k - 1 : Nat) : Int) - (k : Int)) % 4096 = 4095 := by omega
        rw [this]; rfl
      simp only at h1
      rw [h2] at h1
      simp only
      split
      · omega
      · omega
  have hst : S.step = none := by
    unfold J.step
    rw [hg]
    simp only
    rw [if_neg hu]
  refine run_wait hst ?_
  have := h.count
  rw [h.most]
  omega
theorem range_succ' (n m : Nat) (h : n < m) : (List.range' n (m - n)) = n :: List.range' (n + 1) (m - (n + 1)) := by
  rw [show m - n = (m - (n + 1)) + 1 by omega, List.range'_succ]
theorem Pre.step {k n : Nat} {l : List Nat} {S : J} (h : Pre k l n S) (h1 : n < k) (h2 : n ∉ l) : S.step = some (S.tell 1, some (pd n)) ∧ Pre k l (n + 1) (S.tell 1) := by
  have hk := h.k8
  have hg : S.get S.next = some (wp n) := by rw [h.next]; exact h.get_some (Nat.le_refl _) h1 h2
  have hr := h.ok.isRing
  have hg0 : S.get (pos S.R S.next ((0 : Nat) : Int)) = some (wp n) := by
    rw [show pos S.R S.next ((0 : Nat) : Int) = S.next from pos_zero h.ok.next0 h.ok.next1]; exact hg
  refine ⟨?_, ?_⟩
  · unfold J.step
    rw [hg]
    simp only
    have hf : S.first (wp n) S.upto = (S.tell 1, some (pd n), true) := by
      unfold J.first
      rw [if_neg (by simp [wp, wholeF])]
      rw [scan_end hg0 (by simp) rfl]
      simp only [if_true]
      rfl
    rw [hf]
    rfl
  · have e1 : pos S.R S.next 1 = ((n + 1 : Nat) : Int) := by rw [h.ring, h.next]; unfold pos; omega
    refine ⟨h.ring, e1, h.most, h.short, h1, h.k1, h.k8, ?_, ?_, h.links, h.lost, tell_ok h.ok 1⟩
    · intro j hj
      by_cases e : j = n
      · rw [e]; exact h2
      · exact h.before j (by omega)
    · intro f
      show f ∈ fromL S.R S.next 1 S.held ↔ _
      unfold fromL
      rw [List.mem_filter, h.held]
      constructor
      · rintro ⟨⟨j, a, b, c, rfl⟩, d⟩
        refine ⟨j, ?_, b, c, rfl⟩
        rw [h.ring, h.next, wp_q j (by omega)] at d
        simp [off] at d
        by_cases e : j = n
        · subst e; simp at d
        · omega
      · rintro ⟨j, a, b, c, rfl⟩
        refine ⟨⟨j, by omega, b, c, rfl⟩, ?_⟩
        rw [h.ring, h.next, wp_q j (by omega), decide_eq_true_eq]
        unfold off
        omega
theorem Pre.go {k : Nat} {l : List Nat} : ∀ (m n : Nat) (S : J), Pre k l n S → k - n ≤ m → ∃ n', n ≤ n' ∧ Pre k l n' S.run.1 ∧ (n' < k → n' ∈ l) ∧ S.run.2 = (List.range' n (n' - n)).map pd
  | m, n, S, h, hm => by
    by_cases c : n < k ∧ n ∉ l
    · obtain ⟨c1, c2⟩ := c
      obtain ⟨s1, s2⟩ := h.step c1 c2
      match m, hm with
      | 0, hm => omega
      | m + 1, hm =>
        obtain ⟨n', a, b, d, e⟩ := Pre.go m (n + 1) (S.tell 1) s2 (by omega)
        have hr := run_step h.ok s1
        refine ⟨n', by omega, by rw [hr]; exact b, d, ?_⟩
        rw [hr, range_succ' n n' (by omega), List.map_cons, e]
        rfl
    · have hs : n < k → n ∈ l := fun a => Classical.byContradiction fun b => c ⟨a, b⟩
      refine ⟨n, Nat.le_refl _, by rw [h.wait hs]; exact h, hs, ?_⟩
      rw [h.wait hs, Nat.sub_self]
      rfl
/-- a packet comes. -/
theorem Pre.put {k n : Nat} {l l' : List Nat} {S : J} (h : Pre k l n S) {j : Nat} (hj : j ∈ l) (hjk : j < k) (hl' : ∀ x, x ∈ l' ↔ x ∈ l ∧ x ≠ j) :
    putE S j (wp j) = 0 ∧ ∃ n', n ≤ n' ∧ Pre k l' n' (putS S j (wp j)) ∧ (n' < k → n' ∈ l') ∧ putO S j (wp j) = (List.range' n (n' - n)).map pd := by
  have hk := h.k8
  have hnj : n ≤ j := Nat.le_of_not_lt fun c => h.before j c hj
  have hlk : ((j : Int), -1) ∈ S.links := (h.links _ _).2 ⟨j, hjk, rfl, by rw [if_pos hj]⟩
  have hhas : S.has j = true := by
    rw [has_keys, List.contains_iff_mem]
    exact List.mem_map.2 ⟨_, hlk, rfl⟩
  have hmay : mayF S.short (wp j) = true := by
    rw [h.short]
    exact may_whole _ _ (by have := pd_size j; omega)
  have hE : putE S j (wp j) = 0 := by
    unfold putE
    rw [hhas, hmay]
    rfl
  have hq := wp_q j (by omega)
  have hlay : S.lay j (wp j) = { S.upd j (wp j) with held := S.held ++ [wp j] } := by
    rw [lay_eq, if_neg]
    rintro (c | c)
    · have : (S.upd j (wp j)).get (wp j).q = none := by
        rw [hq]
        show S.get j = none
        exact h.get_none (.inr (.inr hj))
      rw [this] at c
      cases c
    · rw [hq, h.ring, h.next] at c
      unfold off at c
      omega
  have hcnt := h.count
  have hP : Pre k l' n (S.lay j (wp j)) := by
    have hok := lay_ok h.ok (j : Int) hmay (by omega) (by rw [h.lost]; omega)
    rw [hlay] at hok ⊢
    refine ⟨h.ring, h.next, h.most, h.short, h.nk, h.k1, h.k8, fun i hi hc => h.before i hi ((hl' i).1 hc).1, ?_, ?_, h.lost, hok⟩
    · intro f
      show f ∈ S.held ++ [wp j] ↔ _
      rw [List.mem_append, h.held]
      constructor
      · rintro (⟨i, a, b, c, rfl⟩ | c)
        · exact ⟨i, a, b, fun d => c ((hl' i).1 d).1, rfl⟩
        · have : f = wp j := by simpa using c
          subst this
          exact ⟨j, hnj, hjk, fun d => ((hl' j).1 d).2 rfl, rfl⟩
      · rintro ⟨i, a, b, c, rfl⟩
        by_cases e : i = j
        · subst e; right; simp
        · left
          exact ⟨i, a, b, fun d => c ((hl' i).2 ⟨d, e⟩), rfl⟩
    · intro q x
      show (q, x) ∈ updI S.links j (wp j).q ↔ _
      rw [hq]
      unfold updI
      rw [List.mem_map]
      constructor
      · rintro ⟨⟨q', x'⟩, hm, e⟩
        obtain ⟨i, hi, rfl, rfl⟩ := (h.links q' x').1 hm
        simp only at e
        by_cases c : (i : Int) = (j : Int)
        · rw [if_pos c] at e
          have : i = j := by omega
          subst this
          cases e
          exact ⟨i, hi, rfl, by rw [if_neg (fun d => ((hl' i).1 d).2 rfl)]⟩
        · rw [if_neg c] at e
          cases e
          have hij : i ≠ j := fun d => c (by rw [d])
          refine ⟨i, hi, rfl, ?_⟩
          by_cases d : i ∈ l
          · rw [if_pos d, if_pos ((hl' i).2 ⟨d, hij⟩)]
          · rw [if_neg d, if_neg (fun d' => d ((hl' i).1 d').1)]
      · rintro ⟨i, hi, rfl, rfl⟩
        refine ⟨((i : Int), if i ∈ l then -1 else (i : Int)), (h.links _ _).2 ⟨i, hi, rfl, rfl⟩, ?_⟩
        simp only
        by_cases c : i = j
        · subst c
          rw [if_pos rfl, if_neg (fun d => ((hl' i).1 d).2 rfl)]
        · rw [if_neg (by omega)]
          by_cases d : i ∈ l
          · rw [if_pos d, if_pos ((hl' i).2 ⟨d, c⟩)]
          · rw [if_neg d, if_neg (fun d' => d ((hl' i).1 d').1)]
  refine ⟨hE, ?_⟩
  obtain ⟨n', a, b, c, d⟩ := Pre.go (k - n) n _ hP (Nat.le_refl _)
  unfold putS putO
  rw [if_pos hE, if_pos hE]
  exact ⟨n', a, b, c, d⟩
theorem start_links : ∀ k : Fin 8, (addN (k.val + 1) (J.new true 64)).links = (List.range (k.val + 1)).map (fun (j : Nat) => ((j : Int), (-1 : Int))) ∧ (addN (k.val + 1) (J.new true 64)).held = [] ∧ (addN (k.val + 1) (J.new true 64)).R = 4096 ∧ (addN (k.val + 1) (J.new true 64)).next = 0 ∧ (addN (k.val + 1) (J.new true 64)).most = 64 ∧ (addN (k.val + 1) (J.new true 64)).short = true ∧ (addN (k.val + 1) (J.new true 64)).lost = 0 := by
  have : ∀ k : Fin 8, (addN (k.val + 1) (J.new true 64)).links = (List.range (k.val + 1)).map (fun (j : Nat) => ((j : Int), (-1 : Int))) ∧ (addN (k.val + 1) (J.new true 64)).held.length = 0 ∧ (addN (k.val + 1) (J.new true 64)).R = 4096 ∧ (addN (k.val + 1) (J.new true 64)).next = 0 ∧ (addN (k.val + 1) (J.new true 64)).most = 64 ∧ (addN (k.val + 1) (J.new true 64)).short = true ∧ (addN (k.val + 1) (J.new true 64)).lost = 0 := by decide +kernel
  intro k
  obtain ⟨a, b, c⟩ := this k
  exact ⟨a, List.eq_nil_of_length_eq_zero b, c⟩
theorem Pre.start (kk : Nat) (hk : kk < 8) (hok : (addN (kk + 1) (J.new true 64)).Ok) : Pre (kk + 1) (List.range (kk + 1)) 0 (addN (kk + 1) (J.new true 64)) := by
  obtain ⟨a, b, c, d, e, f, g⟩ := start_links ⟨kk, hk⟩
  simp only at a b c d e f g
  refine ⟨c, d, e, f, by omega, by omega, by omega, by omega, ?_, ?_, g, hok⟩
  · intro x
    rw [b]
    constructor
    · intro hx; cases hx
    · rintro ⟨j, _, h1, h2, _⟩
      exact absurd (List.mem_range.2 h1) h2
  · intro q x
    rw [a, List.mem_map]
    constructor
    · rintro ⟨j, hj, e⟩
      cases e
      exact ⟨j, List.mem_range.1 hj, rfl, by rw [if_pos hj]⟩
    · rintro ⟨j, hj, rfl, rfl⟩
      exact ⟨j, List.mem_range.2 hj, by rw [if_pos (List.mem_range.2 hj)]⟩
/-- at the end. -/
theorem Pre.done {k n : Nat} {S : J} (h : Pre k [] n S) (hs : n < k → n ∈ ([] : List Nat)) : n = k ∧ S.held.length = 0 ∧ S.lost = 0 := by
  have hn : n = k := by
    have := h.nk
    by_cases c : n < k
    · cases hs c
    · omega
  refine ⟨hn, ?_, h.lost⟩
  cases hh : S.held with
  | nil => rfl
  | cons f r =>
    obtain ⟨j, a, b, _⟩ := (h.held f).1 (by rw [hh]; exact List.mem_cons_self)
    omega
/-- what was got goes on. -/
theorem got_on {n n' : Nat} (h : n ≤ n') : (List.range n).map pd ++ (List.range' n (n' - n)).map pd = (List.range n').map pd := by
  rw [← List.map_append]
  congr 1
  rw [List.range_eq_range', List.range_eq_range']
  have := List.range'_append (s := 0) (m := n) (n := n' - n) (step := 1)
  simp at this
  rw [this]
  congr 1
  omega
/-- without the p-th. -/
theorem cut_mem {l : List Nat} (hn : l.Nodup) {p : Nat} (hp : p < l.length) (x : Nat) : x ∈ l.take p ++ l.drop (p + 1) ↔ x ∈ l ∧ x ≠ l[p] := by
  have e : l = l.take p ++ l[p] :: l.drop (p + 1) := by rw [← List.drop_eq_getElem_cons hp, List.take_append_drop]
  have hn' := hn
  rw [e] at hn'
  have h1 := List.nodup_append.1 hn'
  constructor
  · intro hx
    rw [List.mem_append] at hx
    refine ⟨?_, ?_⟩
    · rw [e, List.mem_append, List.mem_cons]
      rcases hx with hx | hx
      · exact .inl hx
      · exact .inr (.inr hx)
    · rcases hx with hx | hx
      · exact h1.2.2 x hx _ List.mem_cons_self
      · intro hxe
        rw [hxe] at hx
        exact (List.nodup_cons.1 h1.2.1).1 hx
  · rintro ⟨hx, hne⟩
    rw [e, List.mem_append, List.mem_cons] at hx
    rw [List.mem_append]
    rcases hx with hx | hx | hx
    · exact .inl hx
    · exact absurd hx hne
    · exact .inr hx
theorem cut_nodup {l : List Nat} (hn : l.Nodup) {p : Nat} : (l.take p ++ l.drop (p + 1)).Nodup := by
  refine hn.sublist ?_
  have : (l.take p ++ l.drop (p + 1)).Sublist (l.take p ++ l.drop p) := (List.Sublist.refl _).append (by rw [← List.drop_drop]; exact List.drop_sublist _ _)
  rwa [List.take_append_drop] at this
theorem cut_length {l : List Nat} {p : Nat} (hp : p < l.length) : (l.take p ++ l.drop (p + 1)).length + 1 = l.length := by
  rw [List.length_append, List.length_take, List.length_drop]
  omega
/-- numbers in memory. -/
def intsV (l : List Nat) : List Value := l.map fun (j : Nat) => Value.int .i64 j
theorem intsV_len (l : List Nat) : (intsV l).length = l.length := by simp [intsV]
theorem intsV_get (l : List Nat) (p : Nat) (hp : p < l.length) : (intsV l)[p]? = some (.int .i64 (l[p] : Nat)) := by simp [intsV, hp]
theorem intsV_take (l : List Nat) (p : Nat) : (intsV l).take (p * 1) = intsV (l.take p) := by simp [intsV]
theorem intsV_drop (l : List Nat) (p : Nat) : (intsV l).drop (p * 1) = intsV (l.drop p) := by simp [intsV]
def rowK (k t : Nat) : Array Value := ((List.range k).map fun (j : Nat) => Value.int .i64 ((if j < t then j else 0 : Nat) : Int)).toArray
theorem rowK_set (k t : Nat) (h : t < k) : (rowK k t).setIfInBounds t (.int .i64 t) = rowK k (t + 1) := by
  apply Array.ext_getElem?
  intro i
  have hs : (rowK k t).size = k := by simp [rowK]
  by_cases hi : i < k
  · by_cases e : t = i
    · subst e
      rw [Array.getElem?_setIfInBounds_self_of_lt (by omega)]
      unfold rowK
      simp [hi]
    · rw [Array.getElem?_setIfInBounds_ne e]
      unfold rowK
      have : i < t ↔ i < t + 1 := by omega
      simp [hi, this]
  · rw [Array.getElem?_eq_none (by rw [Array.size_setIfInBounds]; omega), Array.getElem?_eq_none (by simp [rowK]; omega)]
theorem rowK_full (k : Nat) : (rowK k k).toList = intsV (List.range k) := by
  unfold rowK intsV
  rw [List.map_congr_left]
  intro j hj
  rw [if_pos (List.mem_range.1 hj)]
end Plain
open Go.RowKit
open Plain
theorem rowK_made (k : Nat) : madeCells #[Value.int .i64 0] k = rowK k 0 := by
  apply Array.ext
  · simp [madeCells, rowK]
  · intro i h1 h2
    simp [madeCells, rowK, Nat.mod_one]
theorem info3 : (Try.prog.info? 3).map (fun i => (i.zero, i.size, i.bytes)) = some (some (.int .i64 0), 1, 8) := by kernel_rfl
theorem makeInts (n : Nat) (hn : n ≤ 32) (w : World) : (Instr.makeSlice 50 (.int .i64 n) (.int .i64 n)).run Try.prog w =
    .ok (.slice (some ⟨w.heap.size, 0, none⟩) n n) (w.alloc (.cells (rowK n 0) 3)) := by
  obtain ⟨i, hi, hz, hs, hb⟩ := info_parts info3
  have := run_make (P := Try.prog) w 50 3 i _ Try.underlying50 hi hz .i64 .i64 (n : Int) (n : Int) (by omega) (by omega) (by rw [hb]; omega) (by omega)
  rw [this, hs]
  simp only [Int.toNat_natCast]
  rw [← rowK_made, Nat.mul_one]
  rfl
end Go.Proofs.Ytcfgbfabokhjcaa

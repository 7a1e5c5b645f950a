/- Chapter 19: the plain law of JoinTwice: a packet's fragments come twice, on two links. No program in sight. -/
import Derived.Test.YtcfgbfabokhjcaaCut
namespace Go.Proofs.Ytcfgbfabokhjcaa
namespace Plain
open Go

/-- the fragments of t, cut by k, numbered from 0 on. -/
def fT (t : ByteArray) (k : Int) (j : Nat) : Fr := Cutp.fr t (fun _ => k) 1 0 4096 j
structure CutT (t : ByteArray) (k : Int) (n : Nat) : Prop where
  cuts : Cutp.Cuts t.size (fun _ => k) 1 n
  n64 : n ≤ 64
  size : t.size ≤ 1500
  size1 : 1 ≤ t.size
  k1 : 1 ≤ k
theorem CutT.n1 {t : ByteArray} {k : Int} {n : Nat} (h : CutT t k n) : 1 ≤ n := by
  cases n with
  | zero => have h1 := h.cuts.top; have h2 := h.size1; unfold Cutp.pos at h1; omega
  | succ n => omega
theorem fT_q {t : ByteArray} {k : Int} {n : Nat} (h : CutT t k n) {j : Nat} (hj : j < n) : (fT t k j).q = j := by
  have := h.n64
  show (0 + (j : Int)) % 4096 = j
  omega
theorem fT_b (t : ByteArray) (k : Int) (j : Nat) : (fT t k j).b = (j == 0) := rfl
theorem fT_e {t : ByteArray} {k : Int} {n : Nat} (h : CutT t k n) {j : Nat} (hj : j < n) : (fT t k j).e = decide (j + 1 = n) := by
  show (Cutp.pos t.size (fun _ => k) 1 (j + 1) == t.size) = _
  by_cases e : j + 1 = n
  · rw [e, h.cuts.top]; simp
  · have := h.cuts.lt (j + 1) (by omega)
    rw [decide_eq_false e]
    simp
    omega
theorem ext_list (t : ByteArray) (a b : Nat) : (t.extract a b).data.toList = (t.data.toList.drop a).take (b - a) := by
  rw [ByteArray.data_extract, Array.toList_extract]
theorem fT_d {t : ByteArray} {k : Int} (j : Nat) : t.data.toList.take (Cutp.pos t.size (fun _ => k) 1 j) ++ (fT t k j).d.data.toList = t.data.toList.take (Cutp.pos t.size (fun _ => k) 1 (j + 1)) := by
  show _ ++ (t.extract _ _).data.toList = _
  rw [ext_list]
  have := Cutp.pos_mono t.size (fun _ => k) 1 j
  generalize Cutp.pos t.size (fun _ => k) 1 j = a at *
  generalize Cutp.pos t.size (fun _ => k) 1 (j + 1) = b at *
  obtain ⟨c, rfl⟩ : ∃ c, b = a + c := ⟨b - a, by omega⟩
  rw [Nat.add_sub_cancel_left, ← List.take_add]
theorem fT_may {t : ByteArray} {k : Int} {n : Nat} (h : CutT t k n) {j : Nat} (hj : j < n) : mayF true (fT t k j) = true := by
  have hn := h.n64
  have hq := fT_q h hj
  have hd : (fT t k j).d.size ≤ t.size := by
    show (t.extract _ _).size ≤ _
    rw [ByteArray.size_extract]
    omega
  have := h.size
  unfold mayF ring
  rw [hq]
  simp
  omega

theorem upto_le {S : J} {q x : Int} (hm : (q, x) ∈ S.links) : S.upto ≤ sgn S.R S.next x ∨ S.upto = -1 := by
  unfold J.upto uptoL
  split
  · right; rfl
  · simp only
    split
    · right; rfl
    · left
      exact foldl_min_mem _ _ (List.mem_map.2 ⟨_, hm, rfl⟩)

/-- so many lie there, from 0 on. -/
structure Lies (t : ByteArray) (k : Int) (i : Nat) (S : J) : Prop where
  ring : S.R = 4096
  next : S.next = 0
  held : S.held = (List.range i).map (fT t k)
theorem Lies.pos {t : ByteArray} {k : Int} {i : Nat} {S : J} (h : Lies t k i S) (j : Nat) (hj : j < 4096) : Plain.pos S.R S.next j = j := by
  rw [h.ring, h.next]
  unfold Plain.pos
  omega
theorem Lies.get {t : ByteArray} {k : Int} {i n : Nat} {S : J} (h : Lies t k i S) (hc : CutT t k n) (hi : i ≤ n) {j : Nat} (hj : j < i) : S.get j = some (fT t k j) := by
  cases hg : S.get j with
  | some f =>
    obtain ⟨hf, hq⟩ := get_mem hg
    rw [h.held] at hf
    obtain ⟨a, ha, rfl⟩ := List.mem_map.1 hf
    rw [fT_q hc (by have := List.mem_range.1 ha; omega)] at hq
    have : a = j := by omega
    rw [this]
  | none =>
    unfold J.get at hg
    have := List.find?_eq_none.1 hg (fT t k j) (by rw [h.held]; exact List.mem_map.2 ⟨j, List.mem_range.2 hj, rfl⟩)
    rw [fT_q hc (by omega)] at this
    simp at this
theorem Lies.miss {t : ByteArray} {k : Int} {i n : Nat} {S : J} (h : Lies t k i S) (hc : CutT t k n) (hi : i ≤ n) {j : Nat} (hj : i ≤ j) : S.get j = none := by
  cases hg : S.get j with
  | none => rfl
  | some f =>
    obtain ⟨hf, hq⟩ := get_mem hg
    rw [h.held] at hf
    obtain ⟨a, ha, rfl⟩ := List.mem_map.1 hf
    have ha' := List.mem_range.1 ha
    rw [fT_q hc (by omega)] at hq
    omega
/-- no end lies there: how far it goes. -/
theorem Lies.part {t : ByteArray} {k : Int} {i n : Nat} {S : J} (h : Lies t k i S) (hc : CutT t k n) (hi : i < n) : ∀ (m j : Nat) (d : List UInt8), j ≤ i → i - j ≤ m → ∃ l, S.scan (m + 1) j d = (l, i, false)
  | m, j, d, hj, hm => by
    have hn := hc.n64
    by_cases e : j = i
    · subst e
      refine ⟨[], ?_⟩
      rw [scan_succ, h.pos j (by omega), h.miss hc (by omega) (Nat.le_refl _)]
    · match m, hm with
      | 0, hm => omega
      | m + 1, hm =>
        have hg : S.get (Plain.pos S.R S.next (j : Nat)) = some (fT t k j) := by rw [h.pos j (by omega)]; exact h.get hc (by omega) (by omega)
        rw [scan_on hg (by rw [fT_b]; simp; omega) (by rw [fT_e hc (by omega)]; simp; omega)]
        exact Lies.part h hc hi m (j + 1) _ (by omega) (by omega)
/-- all lie there. -/
theorem Lies.whole {t : ByteArray} {k : Int} {n : Nat} {S : J} (h : Lies t k n S) (hc : CutT t k n) : ∀ (m j : Nat), j < n → n - j ≤ m → S.scan (m + 1) j (t.data.toList.take (Cutp.pos t.size (fun _ => k) 1 j)) = (t.data.toList, n, true)
  | m, j, hj, hm => by
    have hn := hc.n64
    have hg : S.get (Plain.pos S.R S.next (j : Nat)) = some (fT t k j) := by rw [h.pos j (by omega)]; exact h.get hc (Nat.le_refl _) hj
    by_cases e : j + 1 = n
    · rw [scan_end hg (by rw [fT_b]; simp; omega) (by rw [fT_e hc hj]; simp; exact e), fT_d, e, hc.cuts.top]
      congr 1
      exact List.take_of_length_le (by rw [Array.length_toList]; exact Nat.le_refl _)
    · match m, hm with
      | 0, hm => omega
      | m + 1, hm =>
        rw [scan_on hg (by rw [fT_b]; simp; omega) (by rw [fT_e hc hj]; simp; exact e), fT_d]
        exact Lies.whole h hc m (j + 1) (by omega) (by omega)
theorem Lies.len {t : ByteArray} {k : Int} {i : Nat} {S : J} (h : Lies t k i S) : S.held.length = i := by rw [h.held]; simp
/-- it waits for the rest. -/
theorem Lies.wait {t : ByteArray} {k : Int} {i n : Nat} {S : J} (h : Lies t k (i + 1) S) (hc : CutT t k n) (hi : i + 1 < n) (hm : S.most = 128) (hu : S.upto ≤ i) : S.run = (S, []) := by
  have hn := hc.n64
  have hg : S.get S.next = some (fT t k 0) := by
    rw [h.next]
    exact h.get hc (by omega) (j := 0) (by omega)
  have hlen := h.len
  obtain ⟨l, hl⟩ := h.part hc hi S.held.length 0 [] (by omega) (by omega)
  have hst : S.step = none := by
    unfold J.step
    rw [hg]
    simp only
    have : S.first (fT t k 0) S.upto = (S, none, false) := by
      unfold J.first
      rw [if_neg (by rw [fT_b]; simp), hl]
      simp only [Bool.false_eq_true, if_false]
      rw [h.pos (i + 1) (by omega), h.miss hc (by omega) (Nat.le_refl _)]
      simp only [Option.isSome_none, Bool.false_eq_true, if_false]
      rw [if_neg (by omega)]
    rw [this]
    rfl
  exact run_wait hst (by rw [hm, hlen]; omega)
/-- a state in which nothing is held and all links are behind. -/
theorem run_behind {S : J} (hh : S.held = []) (hm : 0 ≤ S.most) (hu : S.upto < 0) : S.run = (S, []) := by
  have hg : S.get S.next = none := by unfold J.get; rw [hh]; rfl
  have hst : S.step = none := by
    unfold J.step
    rw [hg]
    simp only
    rw [if_neg (by omega)]
  exact run_wait hst (by rw [hh]; exact hm)

/-- before the i-th fragment comes. -/
structure Two (t : ByteArray) (k : Int) (i : Nat) (S : J) : Prop where
  lies : Lies t k i S
  short : S.short = true
  most : S.most = 128
  links : S.links = [((0 : Int), (i : Int) - 1), ((1 : Int), (i : Int) - 1)]
  lost : S.lost = i
  ok : S.Ok
def put2 (t : ByteArray) (k : Int) (i : Nat) (S : J) : J := putS (putS S 0 (fT t k i)) 1 (fT t k i)
theorem Two.code {t : ByteArray} {k : Int} {i n : Nat} {S : J} (hc : CutT t k n) (hi : i < n) (hs : S.short = true) {x y : Int} (hl : S.links = [((0 : Int), x), ((1 : Int), y)]) (q : Int) (hq : q = 0 ∨ q = 1) : putE S q (fT t k i) = 0 := by
  have hh : S.has q = true := by
    rw [has_keys, hl]
    rcases hq with rfl | rfl <;> rfl
  unfold putE
  rw [hh, hs, fT_may hc hi]
  rfl
theorem Two.lay0 {t : ByteArray} {k : Int} {i n : Nat} {S : J} (h : Two t k i S) (hc : CutT t k n) (hi : i < n) :
    S.lay 0 (fT t k i) = { S with links := [((0 : Int), (i : Int)), ((1 : Int), (i : Int) - 1)], held := (List.range (i + 1)).map (fT t k) } := by
  have hn := hc.n64
  have hu : S.upd 0 (fT t k i) = { S with links := [((0 : Int), (i : Int)), ((1 : Int), (i : Int) - 1)] } := by
    unfold J.upd
    rw [h.links, fT_q hc hi]
    rfl
  rw [lay_eq, hu, if_neg, List.range_succ, List.map_append, ← h.lies.held]
  · rfl
  · rintro (c | c)
    · rw [fT_q hc hi] at c
      have : J.get { S with links := [((0 : Int), (i : Int)), ((1 : Int), (i : Int) - 1)] } i = none := h.lies.miss hc (by omega) (Nat.le_refl _)
      rw [this] at c
      cases c
    · rw [fT_q hc hi, h.lies.ring, h.lies.next] at c
      unfold off at c
      omega
/-- one fragment, not the last. -/
theorem Two.step {t : ByteArray} {k : Int} {i n : Nat} {S : J} (h : Two t k i S) (hc : CutT t k n) (hi : i + 1 < n) :
    putE S 0 (fT t k i) = 0 ∧ putO S 0 (fT t k i) = [] ∧ putE (putS S 0 (fT t k i)) 1 (fT t k i) = 0 ∧ putO (putS S 0 (fT t k i)) 1 (fT t k i) = [] ∧ Two t k (i + 1) (put2 t k i S) := by
  have hn := hc.n64
  have e0 : putE S 0 (fT t k i) = 0 := Two.code hc (by omega) h.short h.links 0 (.inl rfl)
  have hlay := h.lay0 hc (by omega)
  have hok0 := lay_ok h.ok 0 (f := fT t k i) (by rw [h.short]; exact fT_may hc (by omega)) (by rw [h.lies.len]; omega) (by rw [h.lies.len, h.lost]; omega)
  rw [hlay] at hok0
  have hput : S.put 0 (fT t k i) = (({ S with links := [((0 : Int), (i : Int)), ((1 : Int), (i : Int) - 1)], held := (List.range (i + 1)).map (fT t k) } : J), []) := by
    unfold J.put
    rw [hlay]
    refine Lies.wait (t := t) (k := k) (i := i) (n := n) ⟨h.lies.ring, h.lies.next, rfl⟩ hc hi h.most ?_
    rcases upto_le (S := { S with links := [((0 : Int), (i : Int)), ((1 : Int), (i : Int) - 1)], held := (List.range (i + 1)).map (fT t k) }) (q := 0) (x := i) (by simp) with c | c
    · have : sgn S.R S.next (i : Int) = i := by rw [h.lies.ring, h.lies.next]; unfold sgn off; split <;> omega
      have c' : J.upto _ ≤ sgn S.R S.next (i : Int) := c
      rw [this] at c'
      exact c'
    · rw [c]; omega
  have hS1 : putS S 0 (fT t k i) = { S with links := [((0 : Int), (i : Int)), ((1 : Int), (i : Int) - 1)], held := (List.range (i + 1)).map (fT t k) } := by
    unfold putS
    rw [if_pos e0, hput]
  have ho0 : putO S 0 (fT t k i) = [] := by
    unfold putO
    rw [if_pos e0, hput]
  obtain ⟨S1, hS1e⟩ : ∃ S1 : J, S1 = { S with links := [((0 : Int), (i : Int)), ((1 : Int), (i : Int) - 1)], held := (List.range (i + 1)).map (fT t k) } := ⟨_, rfl⟩
  rw [← hS1e] at hS1 hok0
  have l1 : S1.links = [((0 : Int), (i : Int)), ((1 : Int), (i : Int) - 1)] := by rw [hS1e]
  have l2 : Lies t k (i + 1) S1 := by rw [hS1e]; exact ⟨h.lies.ring, h.lies.next, rfl⟩
  have l3 : S1.short = true := by rw [hS1e]; exact h.short
  have l4 : S1.most = 128 := by rw [hS1e]; exact h.most
  have l5 : S1.lost = i := by rw [hS1e]; exact h.lost
  have e1 : putE S1 1 (fT t k i) = 0 := Two.code hc (by omega) l3 l1 1 (.inr rfl)
  have hu : S1.upd 1 (fT t k i) = { S1 with links := [((0 : Int), (i : Int)), ((1 : Int), (i : Int))] } := by
    unfold J.upd
    rw [l1, fT_q hc (by omega)]
    rfl
  have hlay1 : S1.lay 1 (fT t k i) = { S1 with links := [((0 : Int), (i : Int)), ((1 : Int), (i : Int))], lost := S1.lost + 1 } := by
    rw [lay_eq, hu, if_pos]
    left
    rw [fT_q hc (by omega)]
    have : J.get { S1 with links := [((0 : Int), (i : Int)), ((1 : Int), (i : Int))] } i = some (fT t k i) := l2.get hc (by omega) (by omega)
    rw [this]
    rfl
  have hok1 := lay_ok hok0 1 (f := fT t k i) (by rw [l3]; exact fT_may hc (by omega)) (by rw [l2.len]; omega) (by rw [l2.len, l5]; omega)
  rw [hlay1] at hok1
  have hput1 : S1.put 1 (fT t k i) = (({ S1 with links := [((0 : Int), (i : Int)), ((1 : Int), (i : Int))], lost := S1.lost + 1 } : J), []) := by
    unfold J.put
    rw [hlay1]
    refine Lies.wait (t := t) (k := k) (i := i) (n := n) ⟨l2.ring, l2.next, l2.held⟩ hc hi l4 ?_
    rcases upto_le (S := { S1 with links := [((0 : Int), (i : Int)), ((1 : Int), (i : Int))], lost := S1.lost + 1 }) (q := 0) (x := i) (by simp) with c | c
    · have : sgn S1.R S1.next (i : Int) = i := by rw [l2.ring, l2.next]; unfold sgn off; split <;> omega
      have c' : J.upto _ ≤ sgn S1.R S1.next (i : Int) := c
      rw [this] at c'
      exact c'
    · rw [c]; omega
  refine ⟨e0, ho0, by rw [hS1]; exact e1, ?_, ?_⟩
  · rw [hS1]
    unfold putO
    rw [if_pos e1, hput1]
  · unfold put2
    rw [hS1]
    unfold putS
    rw [if_pos e1, hput1]
    refine ⟨⟨l2.ring, l2.next, l2.held⟩, l3, l4, ?_, ?_, hok1⟩
    · have : ((i + 1 : Nat) : Int) - 1 = i := by omega
      rw [this]
    · show S1.lost + 1 = _
      rw [l5]; omega
/-- the last fragment. -/
theorem Two.last {t : ByteArray} {k : Int} {i n : Nat} {S : J} (h : Two t k i S) (hc : CutT t k n) (hi : i + 1 = n) :
    putE S 0 (fT t k i) = 0 ∧ putO S 0 (fT t k i) = [t] ∧ putE (putS S 0 (fT t k i)) 1 (fT t k i) = 0 ∧ putO (putS S 0 (fT t k i)) 1 (fT t k i) = [] ∧ (put2 t k i S).held.length = 0 ∧ (put2 t k i S).lost = n ∧ (putS S 0 (fT t k i)).held.length = 0 ∧ (putS S 0 (fT t k i)).lost = i := by
  have hn := hc.n64
  have hin : i < n := by omega
  have e0 : putE S 0 (fT t k i) = 0 := Two.code hc hin h.short h.links 0 (.inl rfl)
  have hlay := h.lay0 hc hin
  have hok0 := lay_ok h.ok 0 (f := fT t k i) (by rw [h.short]; exact fT_may hc hin) (by rw [h.lies.len]; omega) (by rw [h.lies.len, h.lost]; omega)
  rw [hlay] at hok0
  obtain ⟨L, hLe⟩ : ∃ L : J, L = { S with links := [((0 : Int), (i : Int)), ((1 : Int), (i : Int) - 1)], held := (List.range (i + 1)).map (fT t k) } := ⟨_, rfl⟩
  rw [← hLe] at hlay hok0
  have l1 : L.links = [((0 : Int), (i : Int)), ((1 : Int), (i : Int) - 1)] := by rw [hLe]
  have l2 : Lies t k n L := by rw [hLe, ← hi]; exact ⟨h.lies.ring, h.lies.next, rfl⟩
  have l3 : L.short = true := by rw [hLe]; exact h.short
  have l4 : L.most = 128 := by rw [hLe]; exact h.most
  have l5 : L.lost = i := by rw [hLe]; exact h.lost
  have hlen := l2.len
  have hg : L.get L.next = some (fT t k 0) := by rw [l2.next]; exact l2.get hc (Nat.le_refl _) (j := 0) (by omega)
  have hsc := l2.whole hc L.held.length 0 (by omega) (by omega)
  have hp0 : Cutp.pos t.size (fun _ => k) 1 0 = 0 := rfl
  rw [hp0, List.take_zero] at hsc
  have hst : L.step = some (L.tell n, some t) := by
    unfold J.step
    rw [hg]
    simp only
    have : L.first (fT t k 0) L.upto = (L.tell n, some t, true) := by
      unfold J.first
      rw [if_neg (by rw [fT_b]; simp), hsc]
      simp only [if_true]
    rw [this]
    rfl
  have hth : (L.tell n).held = [] := by
    show fromL L.R L.next n L.held = []
    unfold fromL
    rw [List.filter_eq_nil_iff]
    intro f hf
    rw [l2.held] at hf
    obtain ⟨j, hj, rfl⟩ := List.mem_map.1 hf
    have hj' := List.mem_range.1 hj
    rw [fT_q hc hj', l2.ring, l2.next]
    simp [off]
    omega
  have htn : (L.tell n).next = n := by
    show Plain.pos L.R L.next n = n
    exact l2.pos n (by omega)
  have hb0 : (L.tell n).run = (L.tell n, []) := by
    refine run_behind hth (by show 0 ≤ L.most; rw [l4]; omega) ?_
    rcases upto_le (S := L.tell n) (q := 0) (x := i) (by show _ ∈ L.links; rw [l1]; simp) with c | c
    · have : sgn (L.tell n).R (L.tell n).next (i : Int) = -1 := by
        rw [htn]
        show sgn L.R n (i : Int) = -1
        rw [l2.ring]
        unfold sgn off
        have : ((i : Int) - (n : Int)) % 4096 = 4095 := by omega
        rw [this]; rfl
      rw [this] at c
      omega
    · rw [c]; omega
  have hput : S.put 0 (fT t k i) = (L.tell n, [t]) := by
    unfold J.put
    rw [hlay, run_step hok0 hst, hb0]
    rfl
  have hS1 : putS S 0 (fT t k i) = L.tell n := by unfold putS; rw [if_pos e0, hput]
  have ho0 : putO S 0 (fT t k i) = [t] := by unfold putO; rw [if_pos e0, hput]
  have e1 : putE (L.tell n) 1 (fT t k i) = 0 := Two.code (S := L.tell n) hc hin l3 l1 1 (.inr rfl)
  have hu : (L.tell n).upd 1 (fT t k i) = { L.tell n with links := [((0 : Int), (i : Int)), ((1 : Int), (i : Int))] } := by
    unfold J.upd
    have : (L.tell n).links = [((0 : Int), (i : Int)), ((1 : Int), (i : Int) - 1)] := l1
    rw [this, fT_q hc hin]
    rfl
  have hlay1 : (L.tell n).lay 1 (fT t k i) = { L.tell n with links := [((0 : Int), (i : Int)), ((1 : Int), (i : Int))], lost := (L.tell n).lost + 1 } := by
    rw [lay_eq, hu, if_pos]
    right
    rw [fT_q hc hin, htn]
    show L.R / 2 ≤ off L.R n i
    rw [l2.ring]
    unfold off
    omega
  have hput1 : (L.tell n).put 1 (fT t k i) = (({ L.tell n with links := [((0 : Int), (i : Int)), ((1 : Int), (i : Int))], lost := (L.tell n).lost + 1 } : J), []) := by
    unfold J.put
    rw [hlay1]
    refine run_behind hth (by show 0 ≤ L.most; rw [l4]; omega) ?_
    rcases upto_le (S := { L.tell n with links := [((0 : Int), (i : Int)), ((1 : Int), (i : Int))], lost := (L.tell n).lost + 1 }) (q := 0) (x := i) (by simp) with c | c
    · have : sgn L.R (L.tell n).next (i : Int) = -1 := by
        rw [htn, l2.ring]
        unfold sgn off
        have : ((i : Int) - (n : Int)) % 4096 = 4095 := by omega
        rw [this]; rfl
      have c' : J.upto _ ≤ sgn L.R (L.tell n).next (i : Int) := c
      rw [this] at c'
      omega
    · rw [c]; omega
  refine ⟨e0, ho0, by rw [hS1]; exact e1, ?_, ?_, ?_, ?_, ?_⟩
  · rw [hS1]; unfold putO; rw [if_pos e1, hput1]
  · unfold put2; rw [hS1]; unfold putS; rw [if_pos e1, hput1]
    show (L.tell n).held.length = 0
    rw [hth]; rfl
  · unfold put2; rw [hS1]; unfold putS; rw [if_pos e1, hput1]
    show L.lost + 1 = n
    rw [l5]; omega
  · rw [hS1, hth]; rfl
  · rw [hS1]; exact l5
theorem Two.start {t : ByteArray} {k : Int} (hok : (addS (addS (J.new true 128) 0) 1).Ok) : Two t k 0 (addS (addS (J.new true 128) 0) 1) := by
  have e : addS (addS (J.new true 128) 0) 1 = ⟨4096, 0, true, 128, [(0, -1), (1, -1)], [], 0⟩ := by rfl
  rw [e] at hok ⊢
  exact ⟨⟨rfl, rfl, rfl⟩, rfl, rfl, rfl, rfl, hok⟩
end Plain
end Go.Proofs.Ytcfgbfabokhjcaa

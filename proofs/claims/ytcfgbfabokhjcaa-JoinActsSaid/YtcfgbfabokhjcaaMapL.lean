/- Maps keyed by int, as lists of entries (any order): what the model's map operations do, said of a list. Conditions: none (laws of the kit's own words). -/
import Derived.Maps.RangeWalk
import Derived.Maps.Ext
import Derived.WalkKit
namespace Go.Proofs.Ytcfgbfabokhjcaa
open Go Go.Maps

section
variable {α : Type}

open Classical in
/-- how an element reads: as itself. -/
noncomputable def elemR (mk : α → Value) (v : Value) : Option (DataW Value × List MemPlace) := if ∃ x, mk x = v then some (.held v, []) else none

theorem elemR_mk (mk : α → Value) (x : α) : elemR mk (mk x) = some (.held (mk x), []) := by unfold elemR; rw [if_pos ⟨x, rfl⟩]
theorem elemR_inv {mk : α → Value} {v : Value} {y : DataW Value × List MemPlace} (h : elemR mk v = some y) : ∃ x, v = mk x ∧ y = (.held (mk x), []) := by
  unfold elemR at h
  split at h
  · rename_i hx
    obtain ⟨x, rfl⟩ := hx
    cases h
    exact ⟨x, rfl, rfl⟩
  · cases h

/-- the entry at a key. -/
def look (l : List (Int × α)) (q : Int) : Option α := (l.find? (fun p => p.1 == q)).map (·.2)
/-- without the entry at a key. -/
def strike (l : List (Int × α)) (q : Int) : List (Int × α) := l.filter (fun p => p.1 != q)
/-- with an entry at a key. -/
def putL (l : List (Int × α)) (q : Int) (x : α) : List (Int × α) := if (look l q).isSome then l.map (fun p => if p.1 = q then (q, x) else p) else l ++ [(q, x)]

theorem look_nil (q : Int) : look ([] : List (Int × α)) q = none := rfl
theorem look_cons (p : Int × α) (l : List (Int × α)) (q : Int) : look (p :: l) q = if p.1 = q then some p.2 else look l q := by
  unfold look
  rw [List.find?_cons]
  by_cases h : p.1 = q
  · simp [h]
  · have : (p.1 == q) = false := by simp [h]
    rw [this, if_neg h]
theorem look_none {l : List (Int × α)} {q : Int} : look l q = none ↔ ∀ p ∈ l, p.1 ≠ q := by
  simp [look, List.find?_eq_none]
theorem look_mem {l : List (Int × α)} {q : Int} {x : α} (h : look l q = some x) : (q, x) ∈ l := by
  induction l with
  | nil => cases h
  | cons p l ih =>
    rw [look_cons] at h
    by_cases e : p.1 = q
    · rw [if_pos e] at h
      cases h
      subst e
      exact List.mem_cons_self
    · rw [if_neg e] at h
      exact List.mem_cons_of_mem _ (ih h)
theorem look_of_mem {l : List (Int × α)} (hn : (l.map (·.1)).Nodup) {p : Int × α} (hp : p ∈ l) : look l p.1 = some p.2 := by
  induction l with
  | nil => cases hp
  | cons a l ih =>
    rw [look_cons]
    rw [List.map_cons, List.nodup_cons] at hn
    rcases List.mem_cons.1 hp with rfl | hp
    · rw [if_pos rfl]
    · have : a.1 ≠ p.1 := fun e => hn.1 (e ▸ List.mem_map.2 ⟨p, hp, rfl⟩)
      rw [if_neg this]
      exact ih hn.2 hp
theorem look_perm {l l' : List (Int × α)} (hp : l.Perm l') (hn : (l.map (·.1)).Nodup) (q : Int) : look l q = look l' q := by
  have hn' : (l'.map (·.1)).Nodup := (hp.map _).nodup_iff.1 hn
  cases h : look l q with
  | none =>
    symm
    rw [look_none] at h ⊢
    exact fun p hp' => h p (hp.mem_iff.2 hp')
  | some x => exact (look_of_mem hn' (hp.mem_iff.1 (look_mem h))).symm
theorem look_append (l l' : List (Int × α)) (q : Int) : look (l ++ l') q = (look l q).or (look l' q) := by
  induction l with
  | nil => simp [look_nil]
  | cons a l ih =>
    rw [List.cons_append, look_cons, look_cons, ih]
    by_cases e : a.1 = q <;> simp [e]
theorem look_strike (l : List (Int × α)) (q k : Int) : look (strike l q) k = if k = q then none else look l k := by
  unfold strike
  induction l with
  | nil => simp [look_nil]
  | cons a l ih =>
    rw [List.filter_cons]
    by_cases e : a.1 = q
    · have h1 : (a.1 != q) = false := by simp [e]
      simp only [h1, Bool.false_eq_true, if_false, ih, look_cons]
      by_cases e2 : k = q
      · simp [e2]
      · rw [if_neg e2, if_neg e2, if_neg (fun e3 => e2 (e3.symm.trans e))]
    · have h1 : (a.1 != q) = true := by simp [e]
      simp only [h1, if_true, look_cons, ih]
      by_cases e2 : k = q
      · subst e2; simp [e]
      · simp [e2]
theorem strike_nodup {l : List (Int × α)} (hn : (l.map (·.1)).Nodup) (q : Int) : ((strike l q).map (·.1)).Nodup :=
  hn.sublist (List.filter_sublist.map _)
theorem strike_mem {l : List (Int × α)} {q : Int} {p : Int × α} : p ∈ strike l q ↔ p ∈ l ∧ p.1 ≠ q := by simp [strike]
theorem strike_none {l : List (Int × α)} {q : Int} (h : look l q = none) : strike l q = l := by
  rw [look_none] at h
  unfold strike
  exact List.filter_eq_self.2 (fun p hp => by simpa using h p hp)
theorem strike_length {l : List (Int × α)} (hn : (l.map (·.1)).Nodup) (q : Int) : (strike l q).length + (if (look l q).isSome then 1 else 0) = l.length := by
  induction l with
  | nil => simp [strike, look_nil]
  | cons a l ih =>
    rw [List.map_cons, List.nodup_cons] at hn
    have := ih hn.2
    rw [look_cons]
    by_cases e : a.1 = q
    · have h0 : look l q = none := look_none.2 fun p hp e' => hn.1 (List.mem_map.2 ⟨p, hp, by rw [e', e]⟩)
      rw [h0] at this
      have h1 : strike (a :: l) q = strike l q := by simp [strike, e]
      rw [h1, if_pos e]
      simp at this ⊢
      omega
    · have h1 : strike (a :: l) q = a :: strike l q := by simp [strike, e]
      rw [h1, if_neg e, List.length_cons, List.length_cons]
      omega
theorem map_put_keys (l : List (Int × α)) (q : Int) (x : α) : (l.map (fun p => if p.1 = q then (q, x) else p)).map (·.1) = l.map (·.1) := by
  rw [List.map_map]
  refine List.map_congr_left (fun p _ => ?_)
  show (if p.1 = q then (q, x) else p).1 = p.1
  by_cases e : p.1 = q <;> simp [e]
theorem look_map_put (l : List (Int × α)) (q : Int) (x : α) (k : Int) : look (l.map (fun p => if p.1 = q then (q, x) else p)) k = if k = q then (look l q).map (fun _ => x) else look l k := by
  induction l with
  | nil => simp [look_nil]
  | cons a l ih =>
    rw [List.map_cons, look_cons, ih, look_cons, look_cons]
    by_cases e : a.1 = q
    · simp only [e, if_true]
      by_cases e2 : k = q
      · simp [e2]
      · rw [if_neg (fun e3 => e2 e3.symm), if_neg e2, if_neg e2, if_neg (fun e3 => e2 e3.symm)]
    · simp only [e, if_false]
      by_cases e2 : k = q
      · subst e2; simp [e]
      · simp [e2]
theorem look_putL (l : List (Int × α)) (q : Int) (x : α) (k : Int) : look (putL l q x) k = if k = q then some x else look l k := by
  unfold putL
  by_cases h : (look l q).isSome = true
  · rw [if_pos h, look_map_put]
    obtain ⟨y, hy⟩ := Option.isSome_iff_exists.1 h
    rw [hy]
    rfl
  · rw [if_neg h, look_append]
    have h0 : look l q = none := by simpa using h
    by_cases e : k = q
    · subst e
      rw [h0]
      simp [look_cons]
    · rw [if_neg e, look_cons, if_neg (fun e' => e e'.symm), look_nil]
      simp
theorem putL_nodup {l : List (Int × α)} (hn : (l.map (·.1)).Nodup) (q : Int) (x : α) : ((putL l q x).map (·.1)).Nodup := by
  unfold putL
  by_cases h : (look l q).isSome = true
  · rw [if_pos h, map_put_keys]; exact hn
  · rw [if_neg h]
    have h0 : look l q = none := by simpa using h
    rw [look_none] at h0
    rw [List.map_append, List.nodup_append]
    refine ⟨hn, by simp, fun a ha b hb e => ?_⟩
    obtain ⟨p, hp, rfl⟩ := List.mem_map.1 ha
    simp at hb
    exact h0 p hp (by rw [e, hb])
theorem putL_length {l : List (Int × α)} (q : Int) (x : α) : (putL l q x).length = if (look l q).isSome then l.length else l.length + 1 := by
  unfold putL
  split <;> simp
theorem putL_mem {l : List (Int × α)} {q : Int} {x : α} {p : Int × α} (h : p ∈ putL l q x) : p ∈ l ∨ p = (q, x) := by
  unfold putL at h
  split at h
  · obtain ⟨a, ha, rfl⟩ := List.mem_map.1 h
    by_cases e : a.1 = q
    · rw [if_pos e]; exact .inr rfl
    · rw [if_neg e]; exact .inl ha
  · rcases List.mem_append.1 h with h | h
    · exact .inl h
    · exact .inr (by simpa using h)

/-- the datum reads as the list. -/
def Reads (mk : α → Value) (D : DataW Value) (l : List (Int × α)) : Prop :=
  (∀ q, Maps.has D (.int .i64 q) = (look l q).isSome) ∧ (∀ q x, look l q = some x → ∀ zd, D.atKey (.int .i64 q) zd = .held (mk x)) ∧ Maps.size D = l.length

/-- block b is a map that holds just the entries l. -/
def HasMap (P : Program) (k : TypeId) (mk : α → Value) (w : World) (b : Nat) (l : List (Int × α)) : Prop :=
  (l.map (·.1)).Nodup ∧ (∀ p ∈ l, (Lit.int .i64 p.1).wf = true) ∧ ∃ D, w.ownsMap P k (elemR mk) b l.length D ∧ Reads mk D l

/-- .. and block r is an iterator over it, under which the entries todo are still to come. -/
def Ranging (P : Program) (k : TypeId) (mk : α → Value) (w : World) (b r : Nat) (l todo : List (Int × α)) : Prop :=
  (l.map (·.1)).Nodup ∧ (∀ p ∈ l, (Lit.int .i64 p.1).wf = true) ∧ (todo.map (·.1)).Nodup ∧ (∀ p ∈ todo, p ∈ l) ∧
    ∃ D left cnt, w.ranges P k (elemR mk) b r l.length D left cnt ∧ Reads mk D l ∧ ∀ kl, left kl = true ↔ ∃ p ∈ todo, kl = .int .i64 p.1

theorem intKey (q : Int) : WideAt.IsKeyLit (.int .i64 q) := by trivial

variable {P : Program} {k e t : TypeId} {mk : α → Value} {w : World} {b r : Nat} {l todo : List (Int × α)}

theorem HasMap.nodup (h : HasMap P k mk w b l) : (l.map (·.1)).Nodup := h.1
theorem HasMap.lt (h : HasMap P k mk w b l) : b < w.heap.size := by obtain ⟨_, _, D, h, _⟩ := h; exact h.lt
theorem HasMap.made (w : World) : HasMap P k mk (w.alloc (.map #[] 0)) w.heap.size [] :=
  ⟨by simp, by simp, .map [], World.ownsMap_made w P k (elemR mk), fun q => rfl, fun q x h => (by cases h), rfl⟩
theorem HasMap.kept {w' : World} {row : Option Nat} (h : HasMap P k mk w b l) (hg : w.grownBy w' row) (hne : some b ≠ row) : HasMap P k mk w' b l := by
  obtain ⟨h1, h2, D, h3, h4⟩ := h
  exact ⟨h1, h2, D, h3.kept hg hne, h4⟩
theorem HasMap.alloc (h : HasMap P k mk w b l) (o : Obj) : HasMap P k mk (w.alloc o) b l := by
  obtain ⟨h1, h2, D, h3, h4⟩ := h
  exact ⟨h1, h2, D, h3.alloc o, h4⟩
theorem HasMap.drew (h : HasMap P k mk w b l) : HasMap P k mk w.drew b l := h
theorem HasMap.setCell (h : HasMap P k mk w b l) {a : Addr} (ha : b ≠ a.block) (u : Value) : HasMap P k mk (w.setCell a u) b l := by
  obtain ⟨h1, h2, D, h3, h4⟩ := h
  exact ⟨h1, h2, D, h3.setCell ha u, h4⟩
/-- a block untouched. -/
theorem HasMap.same {w' : World} (h : HasMap P k mk w b l) (hb : w'.heap[b]? = w.heap[b]?) : HasMap P k mk w' b l := by
  obtain ⟨h1, h2, D, ⟨es, clock, h3⟩, h4⟩ := h
  exact ⟨h1, h2, D, ⟨es, clock, by rw [hb]; exact h3⟩, h4⟩

theorem Reads.perm {D : DataW Value} {l' : List (Int × α)} (h : Reads mk D l) (hn : (l.map (·.1)).Nodup) (hp : l.Perm l') : Reads mk D l' := by
  refine ⟨fun q => by rw [h.1, look_perm hp hn], fun q x hx => h.2.1 q x (by rw [look_perm hp hn]; exact hx), by rw [h.2.2, hp.length_eq]⟩
theorem HasMap.perm {l' : List (Int × α)} (h : HasMap P k mk w b l) (hp : l.Perm l') : HasMap P k mk w b l' := by
  obtain ⟨h1, h2, D, h3, h4⟩ := h
  exact ⟨(hp.map _).nodup_iff.1 h1, fun p hp' => h2 p (hp.mem_iff.2 hp'), D, by rw [← hp.length_eq]; exact h3, h4.perm h1 hp⟩

/-- at a key: the element that is there, or what the type's zero value is. -/
theorem Reads.at {D : DataW Value} (h : Reads mk D l) (q : Int) (z : α) : D.atKey (.int .i64 q) (.held (mk z)) = .held (mk ((look l q).getD z)) := by
  cases hl : look l q with
  | none => exact Maps.atKey_of_not_has (by rw [h.1, hl]; rfl) _
  | some x => exact h.2.1 q x hl _

theorem HasMap.get (h : HasMap P k mk w b l) (K : Keyed P k) (hk : P.underlying k = some (.int .i64)) (ht : P.underlying t = some (.map k e)) {z : α} (hz : (zeroValue e).run P w = .ok (mk z) w) {q : Int} (hq : (Lit.int .i64 q).wf = true) :
    (Instr.lookup t (.map (some b)) (.int .i64 q) false).run P w = .ok (mk ((look l q).getD z)) w := by
  obtain ⟨h1, h2, D, h3, h4⟩ := h
  obtain ⟨v, ps, hrun, hv⟩ := h3.lookup K ht hz (elemR_mk mk z) (Maps.keyOf_int_mk hk hq)
  obtain ⟨x, rfl, hx⟩ := elemR_inv hv
  rw [h4.at q z] at hx
  rw [hrun]
  simp only [Prod.mk.injEq, DataW.held.injEq] at hx
  rw [hx.1]

theorem HasMap.get_ok (h : HasMap P k mk w b l) (K : Keyed P k) (hk : P.underlying k = some (.int .i64)) (ht : P.underlying t = some (.map k e)) {z : α} (hz : (zeroValue e).run P w = .ok (mk z) w) {q : Int} (hq : (Lit.int .i64 q).wf = true) :
    (Instr.lookup t (.map (some b)) (.int .i64 q) true).run P w = .ok (.tuple #[mk ((look l q).getD z), .bool (look l q).isSome]) w := by
  obtain ⟨h1, h2, D, h3, h4⟩ := h
  obtain ⟨v, ps, hrun, hv⟩ := h3.look_ok K ht hz (elemR_mk mk z) (Maps.keyOf_int_mk hk hq)
  obtain ⟨x, rfl, hx⟩ := elemR_inv hv
  rw [h4.at q z] at hx
  rw [hrun, h4.1]
  simp only [Prod.mk.injEq, DataW.held.injEq] at hx
  rw [hx.1]

theorem HasMap.len (h : HasMap P k mk w b l) (ht : P.underlying t = some (.map k e)) (ty : TypeId) : (Builtin.len_ #[t] ty #[.map (some b)]).run P w = .ok (.int .i64 l.length) w := by
  obtain ⟨h1, h2, D, h3, h4⟩ := h
  rw [h3.len ht ty, h4.2.2]

theorem ownsMap_size {D : DataW Value} {R : Value → Option (DataW Value × List MemPlace)} {n : Nat} (h : w.ownsMap P k R b n D) : w.ownsMap P k R b (Maps.size D) D := by
  obtain ⟨es, clock, hb, F, hs, rfl⟩ := h
  exact ⟨es, clock, hb, F, by simp [Maps.size, length_sorted], rfl⟩

theorem Reads.put {D : DataW Value} (h : Reads mk D l) (hT : Tidy D) (q : Int) (x : α) : Reads mk (D.put (.int .i64 q) (.held (mk x))) (putL l q x) := by
  refine ⟨fun j => ?_, fun j y hj zd => ?_, ?_⟩
  · by_cases ej : j = q
    · subst ej; rw [has_put_same hT.isMap (intKey j), look_putL, if_pos rfl]; rfl
    · rw [has_put_other (fun e => ej (by simpa using e)), h.1, look_putL, if_neg ej]
  · by_cases ej : j = q
    · subst ej
      rw [look_putL, if_pos rfl] at hj
      cases hj
      exact atKey_put_same hT.isMap (intKey j) _ _
    · rw [look_putL, if_neg ej] at hj
      rw [atKey_put_other (fun e => ej (by simpa using e))]
      exact h.2.1 j y hj zd
  · rw [size_put hT, h.1, h.2.2, putL_length]

theorem Reads.del {D : DataW Value} (h : Reads mk D l) (hT : Tidy D) (hn : (l.map (·.1)).Nodup) (q : Int) : Reads mk (D.del (.int .i64 q)) (strike l q) := by
  refine ⟨fun j => ?_, fun j y hj zd => ?_, ?_⟩
  · by_cases ej : j = q
    · subst ej; rw [has_del_same, look_strike, if_pos rfl]; rfl
    · rw [has_del_other (fun e => ej (by simpa using e)), h.1, look_strike, if_neg ej]
  · by_cases ej : j = q
    · subst ej
      rw [look_strike, if_pos rfl] at hj
      cases hj
    · rw [look_strike, if_neg ej] at hj
      rw [atKey_del_other (fun e => ej (by simpa using e))]
      exact h.2.1 j y hj zd
  · have h1 := size_del (D := D) (k := .int .i64 q) hT
    have h2 := strike_length hn q
    rw [h.1, h.2.2] at h1
    omega

theorem HasMap.store (h : HasMap P k mk w b l) (K : Keyed P k) (hk : P.underlying k = some (.int .i64)) (ht : P.underlying t = some (.map k e)) (hn : l.length < maxLen) {q : Int} (hq : (Lit.int .i64 q).wf = true) (x : α) :
    ∃ w', (Instr.mapUpdate t (.map (some b)) (.int .i64 q) (mk x)).run P w = .ok () w' ∧ HasMap P k mk w' b (putL l q x) ∧ w.mapTurned w' b := by
  obtain ⟨h1, h2, D, h3, h4⟩ := h
  obtain ⟨w', hrun, ho, ht'⟩ := h3.store K ht hn (Maps.keyOf_int_mk hk hq) (elemR_mk mk x)
  have hR := h4.put (h3.tidy K) q x
  refine ⟨w', hrun, ⟨putL_nodup h1 q x, fun p hp => ?_, _, by rw [← hR.2.2]; exact ownsMap_size ho, hR⟩, ht'⟩
  rcases putL_mem hp with hp | rfl
  · exact h2 p hp
  · exact hq

theorem HasMap.drop (h : HasMap P k mk w b l) (K : Keyed P k) (hk : P.underlying k = some (.int .i64)) (ht : P.underlying t = some (.map k e)) {q : Int} (hq : (Lit.int .i64 q).wf = true) (ty : TypeId) :
    ∃ w', (Builtin.delete_ #[t, k] ty #[.map (some b), .int .i64 q]).run P w = .ok (.tuple #[]) w' ∧ HasMap P k mk w' b (strike l q) ∧ w.mapTurned w' b := by
  obtain ⟨h1, h2, D, h3, h4⟩ := h
  obtain ⟨w', hrun, ho, ht'⟩ := h3.drop K ht (Maps.keyOf_int_mk hk hq) ty
  have hR := h4.del (h3.tidy K) h1 q
  exact ⟨w', hrun, ⟨strike_nodup h1 q, fun p hp => h2 p (strike_mem.1 hp).1, _, by rw [← hR.2.2]; exact ownsMap_size ho, hR⟩, ht'⟩

theorem ranges_size {R : Value → Option (DataW Value × List MemPlace)} {n : Nat} {D : DataW Value} {left : Lit → Bool} {cnt : Nat} {m : Nat} (hm : Maps.size D = m) (h : w.ranges P k R b r n D left cnt) : w.ranges P k R b r m D left cnt := by
  obtain ⟨es, clock, since, seen, c0, hb, F, hs, rfl, rest⟩ := h
  exact ⟨es, clock, since, seen, c0, hb, F, by rw [← hm]; simp [Maps.size, length_sorted], rfl, rest⟩

theorem Ranging.has (h : Ranging P k mk w b r l todo) : HasMap P k mk w b l := by
  obtain ⟨h1, h2, _, _, D, left, cnt, h3, h4, _⟩ := h
  exact ⟨h1, h2, D, h3.owns, h4⟩
theorem Ranging.ne (h : Ranging P k mk w b r l todo) : r ≠ b := by obtain ⟨_, _, _, _, D, left, cnt, h3, _⟩ := h; exact h3.ne
theorem Ranging.lt (h : Ranging P k mk w b r l todo) : r < w.heap.size := by obtain ⟨_, _, _, _, D, left, cnt, h3, _⟩ := h; exact h3.lt
theorem Ranging.nodup (h : Ranging P k mk w b r l todo) : (l.map (·.1)).Nodup := h.1
theorem Ranging.todo_nodup (h : Ranging P k mk w b r l todo) : (todo.map (·.1)).Nodup := h.2.2.1
theorem Ranging.sub (h : Ranging P k mk w b r l todo) : ∀ p ∈ todo, p ∈ l := h.2.2.2.1
theorem Ranging.kept {w' : World} {row : Option Nat} (h : Ranging P k mk w b r l todo) (hg : w.grownBy w' row) (hb : some b ≠ row) (hr : some r ≠ row) : Ranging P k mk w' b r l todo := by
  obtain ⟨h1, h2, h3, h4, D, left, cnt, h5, h6, h7⟩ := h
  exact ⟨h1, h2, h3, h4, D, left, cnt, h5.kept hg hb hr, h6, h7⟩

theorem ranges_key {R : Value → Option (DataW Value × List MemPlace)} {n : Nat} {D : DataW Value} {left : Lit → Bool} {cnt : Nat} (hk : P.underlying k = some (.int .i64)) (h : w.ranges P k R b r n D left cnt) {kl : Lit} (hl : left kl = true) : ∃ q, kl = .int .i64 q := by
  obtain ⟨es, clock, since, seen, c0, hb, F, hs, rfl, hr, hold, rfl, hl1, hl2, hsc, hsk⟩ := h
  obtain ⟨x, hx, rfl⟩ := hl2 kl hl
  obtain ⟨y, hy⟩ := F.reads x hx
  rw [WideElems.rg_of hy]
  obtain ⟨q, _, e, _⟩ := Maps.keyOf_int_inv hk (WideElems.rd_key hy)
  exact ⟨q, e⟩

theorem HasMap.range (h : HasMap P k mk w b l) (K : Keyed P k) (hk : P.underlying k = some (.int .i64)) (ht : P.underlying t = some (.map k e)) :
    ∃ w', (Instr.range t (.map (some b))).run P w = .ok (.pointer (some ⟨w.heap.size, 0, none⟩)) w' ∧ Ranging P k mk w' b w.heap.size l l ∧ w.grownBy w' none ∧ w'.heap.size = w.heap.size + 1 := by
  obtain ⟨h1, h2, D, h3, h4⟩ := h
  obtain ⟨w', hrun, hr, hg, hs⟩ := h3.range K ht
  refine ⟨w', hrun, ⟨h1, h2, h1, fun p hp => hp, D, _, _, hr, h4, fun kl => ⟨fun hkl => ?_, ?_⟩⟩, hg, hs⟩
  · obtain ⟨q, rfl⟩ := ranges_key hk hr hkl
    rw [h4.1] at hkl
    obtain ⟨x, hx⟩ := Option.isSome_iff_exists.1 hkl
    exact ⟨_, look_mem hx, rfl⟩
  · rintro ⟨p, hp, rfl⟩
    rw [h4.1, look_of_mem h1 hp]
    rfl

theorem strike_perm {l : List (Int × α)} (hn : (l.map (·.1)).Nodup) {p : Int × α} (hp : p ∈ l) : l.Perm (p :: strike l p.1) := by
  induction l with
  | nil => cases hp
  | cons a l ih =>
    rw [List.map_cons, List.nodup_cons] at hn
    by_cases e : a.1 = p.1
    · have h0 : look l p.1 = none := look_none.2 fun x hx e' => hn.1 (List.mem_map.2 ⟨x, hx, by rw [e', e]⟩)
      have h1 : strike (a :: l) p.1 = l := by
        have : strike (a :: l) p.1 = strike l p.1 := by simp [strike, e]
        rw [this, strike_none h0]
      rcases List.mem_cons.1 hp with rfl | hp
      · rw [h1]
      · exact absurd rfl (look_none.1 h0 p hp)
    · have h1 : strike (a :: l) p.1 = a :: strike l p.1 := by simp [strike, e]
      rcases List.mem_cons.1 hp with rfl | hp
      · exact absurd rfl e
      · rw [h1]
        exact ((ih hn.2 hp).cons a).trans (List.Perm.swap _ _ _)

theorem left_strike {left : Lit → Bool} (h : ∀ kl, left kl = true ↔ ∃ p ∈ todo, kl = .int .i64 p.1) (q : Int) : ∀ kl, (left kl && !kl.sameKey (.int .i64 q)) = true ↔ ∃ p ∈ strike todo q, kl = .int .i64 p.1 := by
  intro kl
  rw [Bool.and_eq_true, h]
  constructor
  · rintro ⟨⟨p, hp, rfl⟩, hs⟩
    refine ⟨p, strike_mem.2 ⟨hp, fun e => ?_⟩, rfl⟩
    rw [e, WideAt.sameKey_self (intKey q)] at hs
    cases hs
  · rintro ⟨p, hp, rfl⟩
    obtain ⟨hp, hne⟩ := strike_mem.1 hp
    refine ⟨⟨p, hp, rfl⟩, ?_⟩
    rw [Maps.sameKey_ne (fun e => hne (by simpa using e))]
    rfl

/-- the step: nothing is left; or some entry comes. -/
theorem Ranging.next (h : Ranging P k mk w b r l todo) (K : Keyed P k) (hk : P.underlying k = some (.int .i64)) (ty : TypeId) :
    (todo = [] ∧ (Instr.next (.pointer (some ⟨r, 0, none⟩)) false ty).run P w = .ok (.tuple #[.bool false]) w) ∨
    ∃ p w', p ∈ todo ∧ (Lit.int .i64 p.1).wf = true ∧ (Instr.next (.pointer (some ⟨r, 0, none⟩)) false ty).run P w = .ok (.tuple #[.bool true, .int .i64 p.1, mk p.2]) w' ∧ Ranging P k mk w' b r l (strike todo p.1) ∧ w'.rangeLeft b r < w.rangeLeft b r ∧
      w.grownBy w' (some r) ∧ w'.heap.size = w.heap.size ∧ (Instr.entry (.pointer (some ⟨r, 0, none⟩))).run P w' = .ok (.tuple #[.int .i64 p.1, mk p.2]) w' := by
  obtain ⟨h1, h2, h3, h4, D, left, cnt, h5, h6, h7⟩ := h
  rcases h5.next K ty with ⟨_, hl, hrun⟩ | ⟨key, v, kl, y, w', cnt', hkey, hlk, hv, hat, hrun, hrg, hlt, hgr, hsz, hen⟩
  · refine .inl ⟨?_, hrun⟩
    cases todo with
    | nil => rfl
    | cons p todo =>
      have := (h7 (.int .i64 p.1)).2 ⟨p, List.mem_cons_self, rfl⟩
      rw [hl] at this
      cases this
  · obtain ⟨p, hp, rfl⟩ := (h7 kl).1 hlk
    obtain ⟨q, rfl, eq, hwq⟩ := Maps.keyOf_int_inv hk hkey
    have eq' : p.1 = q := by simpa using eq
    subst eq'
    obtain ⟨x, rfl, rfl⟩ := elemR_inv hv
    have hx := hat (.held (mk x))
    rw [h6.2.1 _ _ (look_of_mem h1 (h4 p hp))] at hx
    have hx' : mk p.2 = mk x := by simpa using hx
    rw [← hx'] at hrun hen
    refine .inr ⟨p, w', hp, hwq, hrun, ⟨h1, h2, strike_nodup h3 _, fun a ha => h4 a (strike_mem.1 ha).1, D, _, cnt', hrg, h6, left_strike h7 p.1⟩, by rw [hrg.left_eq, h5.left_eq]; exact hlt, hgr, hsz, hen⟩

/-- delete in the round. -/
theorem Ranging.drop (h : Ranging P k mk w b r l todo) (K : Keyed P k) (hk : P.underlying k = some (.int .i64)) (ht : P.underlying t = some (.map k e)) {q : Int} (hq : (Lit.int .i64 q).wf = true) (ty : TypeId) :
    ∃ w', (Builtin.delete_ #[t, k] ty #[.map (some b), .int .i64 q]).run P w = .ok (.tuple #[]) w' ∧ Ranging P k mk w' b r (strike l q) (strike todo q) ∧ w'.rangeLeft b r ≤ w.rangeLeft b r ∧ w.mapTurned w' b := by
  obtain ⟨h1, h2, h3, h4, D, left, cnt, h5, h6, h7⟩ := h
  obtain ⟨w', cnt', hrun, hrg, hle, hmt⟩ := h5.drop K ht (Maps.keyOf_int_mk hk hq) ty
  have hR := h6.del (h5.owns.tidy K) h1 q
  refine ⟨w', hrun, ⟨strike_nodup h1 q, fun p hp => h2 p (strike_mem.1 hp).1, strike_nodup h3 q, fun p hp => ?_, _, _, cnt', ranges_size hR.2.2 hrg, hR, left_strike h7 q⟩, by rw [hrg.left_eq, h5.left_eq]; exact hle, hmt⟩
  obtain ⟨a, c⟩ := strike_mem.1 hp
  exact strike_mem.2 ⟨h4 p a, c⟩

end

section
variable {α : Type} {P : Program} (w : World) {ops : Array Oper} {rest : List Oper} {o : Oper} {a : Act} {Q : Exit → Act → World → Prop}

theorem wpList_storeL (hg : o.guard = none) (m x v : Operand) (t : TypeId) (hop : o.op = Op.mapUpdate t m x v) (k e : TypeId) (K : Keyed P k) (hk : P.underlying k = some (.int .i64)) (ht : P.underlying t = some (.map k e)) (mk : α → Value) (b : Nat) (l : List (Int × α))
    (hm : a.eval m = .map (some b)) (h : HasMap P k mk w b l) (hn : l.length < maxLen) (q : Int) (y : α) (hx : a.eval x = .int .i64 q) (hv : a.eval v = mk y) (hq : (Lit.int .i64 q).wf = true)
    (hK : ∀ w', HasMap P k mk w' b (putL l q y) → w.mapTurned w' b → wpList P ops Q rest (a.put o.dst undef) w') :
    wpList P ops Q (o :: rest) a w := by
  refine wpList_plain hg fun K' hK' => ?_
  obtain ⟨w', hrun, r1, r2⟩ := h.store K hk ht hn hq y
  unfold Oper.wp
  simp [execOp, hop, hm, hx, hv, hrun, Result.andThen]
  exact hK' _ _ (hK w' r1 r2)

theorem wpList_dropL (hg : o.guard = none) (m x : Operand) (t k : TypeId) (hop : o.op = Op.call { callee := Callee.builtin Builtin.delete, args := #[m, x], argTypes := #[t, k] }) (e : TypeId) (K : Keyed P k) (hk : P.underlying k = some (.int .i64)) (ht : P.underlying t = some (.map k e)) (mk : α → Value) (b : Nat) (l : List (Int × α))
    (hm : a.eval m = .map (some b)) (h : HasMap P k mk w b l) (q : Int) (hx : a.eval x = .int .i64 q) (hq : (Lit.int .i64 q).wf = true)
    (hK : ∀ w', HasMap P k mk w' b (strike l q) → w.mapTurned w' b → wpList P ops Q rest (a.put o.dst (.tuple #[])) w') :
    wpList P ops Q (o :: rest) a w := by
  refine wpList_plain hg fun K' hK' => ?_
  obtain ⟨w', hrun, r1, r2⟩ := h.drop K hk ht hq o.type
  unfold Oper.wp
  simp [execOp, hop, resolve, invoke, builtin, hm, hx, hrun, Result.andThen]
  exact hK' _ _ (hK w' r1 r2)

theorem wpList_dropR (hg : o.guard = none) (m x : Operand) (t k : TypeId) (hop : o.op = Op.call { callee := Callee.builtin Builtin.delete, args := #[m, x], argTypes := #[t, k] }) (e : TypeId) (K : Keyed P k) (hk : P.underlying k = some (.int .i64)) (ht : P.underlying t = some (.map k e)) (mk : α → Value) (b r : Nat) (l todo : List (Int × α))
    (hm : a.eval m = .map (some b)) (h : Ranging P k mk w b r l todo) (q : Int) (hx : a.eval x = .int .i64 q) (hq : (Lit.int .i64 q).wf = true)
    (hK : ∀ w', Ranging P k mk w' b r (strike l q) (strike todo q) → w'.rangeLeft b r ≤ w.rangeLeft b r → w.mapTurned w' b → wpList P ops Q rest (a.put o.dst (.tuple #[])) w') :
    wpList P ops Q (o :: rest) a w := by
  refine wpList_plain hg fun K' hK' => ?_
  obtain ⟨w', hrun, r1, r2, r3⟩ := h.drop K hk ht hq o.type
  unfold Oper.wp
  simp [execOp, hop, resolve, invoke, builtin, hm, hx, hrun, Result.andThen]
  exact hK' _ _ (hK w' r1 r2 r3)

theorem wpList_rangeL (hg : o.guard = none) (m : Operand) (t : TypeId) (hop : o.op = Op.range t m) (k e : TypeId) (K : Keyed P k) (hk : P.underlying k = some (.int .i64)) (ht : P.underlying t = some (.map k e)) (mk : α → Value) (b : Nat) (l : List (Int × α))
    (hm : a.eval m = .map (some b)) (h : HasMap P k mk w b l)
    (hK : ∀ w', Ranging P k mk w' b w.heap.size l l → w.grownBy w' none → w'.heap.size = w.heap.size + 1 → wpList P ops Q rest (a.put o.dst (.pointer (some ⟨w.heap.size, 0, none⟩))) w') :
    wpList P ops Q (o :: rest) a w := by
  refine wpList_plain hg fun K' hK' => ?_
  obtain ⟨w', hrun, r1, r2, r3⟩ := h.range K hk ht
  unfold Oper.wp
  simp [execOp, hop, hm, hrun, Result.andThen]
  exact hK' _ _ (hK w' r1 r2 r3)

theorem wpList_nextL (hg : o.guard = none) (it : Operand) (hop : o.op = Op.next it false) (k : TypeId) (K : Keyed P k) (hk : P.underlying k = some (.int .i64)) (mk : α → Value) (b r : Nat) (l todo : List (Int × α))
    (hit : a.eval it = .pointer (some ⟨r, 0, none⟩)) (h : Ranging P k mk w b r l todo)
    (hDone : todo = [] → wpList P ops Q rest (a.put o.dst (.tuple #[.bool false])) w)
    (hMore : ∀ (q : Int) (y : α) (w' : World), (q, y) ∈ todo → (Lit.int .i64 q).wf = true → Ranging P k mk w' b r l (strike todo q) → w'.rangeLeft b r < w.rangeLeft b r → w.grownBy w' (some r) → w'.heap.size = w.heap.size →
      (Instr.entry (.pointer (some ⟨r, 0, none⟩))).run P w' = .ok (.tuple #[.int .i64 q, mk y]) w' → wpList P ops Q rest (a.put o.dst (.tuple #[.bool true, .int .i64 q, mk y])) w') :
    wpList P ops Q (o :: rest) a w := by
  refine wpList_plain hg fun K' hK' => ?_
  unfold Oper.wp
  rcases h.next K hk o.type with ⟨h0, hrun⟩ | ⟨p, w', hp, hwq, hrun, hrg, hlt, hgr, hsz, hen⟩
  · simp [execOp, hop, hit, hrun, Result.andThen]
    exact hK' _ _ (hDone h0)
  · simp [execOp, hop, hit, hrun, Result.andThen]
    exact hK' _ _ (hMore p.1 p.2 w' hp hwq hrg hlt hgr hsz hen)
end
end Go.Proofs.Ytcfgbfabokhjcaa

/- Chapter 20: a row of bools that tells which links are there. -/
import Derived.Test.YtjcndeanojeffaaDeals
namespace Go.Proofs.Ytjcndeanojeffaa
namespace Plain
open Go
def Q.has (S : Q) (k : Int) : Bool := (S.lane k).isSome
def hasRow (S : Q) : Array Value := ((List.range 16).map fun (k : Nat) => Value.bool (S.has k)).toArray
theorem hasRow_get (S : Q) (j : Nat) (h : j < 16) : (hasRow S)[j]? = some (.bool (S.has j)) := by
  unfold hasRow
  rw [List.getElem?_toArray, List.getElem?_map, List.getElem?_range h]
  rfl
theorem hasRow_size (S : Q) : (hasRow S).size = 16 := by simp [hasRow]
theorem hasRow_ext {A : Array Value} (S : Q) (hA : A.size = 16) (h : ∀ j, j < 16 → A[j]? = some (.bool (S.has j))) : A = hasRow S := by
  apply Array.ext_getElem?
  intro i
  by_cases hi : i < 16
  · rw [h i hi, hasRow_get S i hi]
  · rw [Array.getElem?_eq_none (by omega), Array.getElem?_eq_none (by simp [hasRow]; omega)]
theorem look_one (k j : Int) (L : Lane) : look [(k, L)] j = if k = j then some L else none := by
  rw [look_cons]
  rfl
theorem has_add {S : Q} {k : Int} (he : S.addE k = 0) (j : Int) : (S.addS k).has j = (S.has j || (j == k)) := by
  unfold Q.has Q.lane Q.addS
  rw [if_pos he]
  simp only
  rw [look_append, look_one]
  by_cases e : k = j
  · rw [if_pos e]
    subst e
    cases look S.lanes k <;> simp
  · rw [if_neg e]
    have : (j == k) = false := by simp; exact fun h => e h.symm
    rw [this]
    cases look S.lanes j <;> simp
theorem has_drop {S : Q} {k : Int} (hh : S.dropE k = 0) (j : Int) : (S.dropS k).has j = (S.has j && (j != k)) := by
  unfold Q.has Q.lane Q.dropS
  rw [if_pos hh]
  simp only
  rw [look_strike]
  by_cases e : j = k
  · simp [e]
  · rw [if_neg e]
    have : (j != k) = true := by simp [e]
    rw [this, Bool.and_true]
theorem has_drain (S : Q) (k j : Int) : (S.drainS k).has j = S.has j := by
  unfold Q.has Q.lane Q.drainS
  simp only
  rw [look_updL]
  split
  · cases look S.lanes j <;> rfl
  · rfl
theorem row_add {S : Q} {k : Nat} (_hk : k < 16) (he : S.addE k = 0) : (hasRow S).setIfInBounds k (.bool true) = hasRow (S.addS k) := by
  refine hasRow_ext _ (by rw [Array.size_setIfInBounds, hasRow_size]) (fun j hj => ?_)
  rw [has_add he]
  by_cases e : k = j
  · subst e
    rw [Array.getElem?_setIfInBounds_self_of_lt (by rw [hasRow_size]; exact hj)]
    simp
  · rw [Array.getElem?_setIfInBounds_ne e, hasRow_get S j hj]
    have : ((j : Int) == (k : Int)) = false := by simp; omega
    rw [this, Bool.or_false]
theorem row_drop {S : Q} {k : Nat} (_hk : k < 16) (hh : S.dropE k = 0) : (hasRow S).setIfInBounds k (.bool false) = hasRow (S.dropS k) := by
  refine hasRow_ext _ (by rw [Array.size_setIfInBounds, hasRow_size]) (fun j hj => ?_)
  rw [has_drop hh]
  by_cases e : k = j
  · subst e
    rw [Array.getElem?_setIfInBounds_self_of_lt (by rw [hasRow_size]; exact hj)]
    simp
  · rw [Array.getElem?_setIfInBounds_ne e, hasRow_get S j hj]
    have : ((j : Int) != (k : Int)) = true := by simp; omega
    rw [this, Bool.and_true]
theorem row_drain (S : Q) (k : Int) : hasRow (S.drainS k) = hasRow S := by
  unfold hasRow
  congr 1
  refine List.map_congr_left (fun j _ => ?_)
  rw [has_drain]
/-- what QueueLinks keeps: nothing waits. -/
def Idle (S : Q) : Prop := ∀ p ∈ S.lanes, p.2.waits = []
theorem Idle.add {S : Q} (h : Idle S) (k : Int) : Idle (S.addS k) := by
  unfold Q.addS
  split
  · intro p hp
    rcases List.mem_append.1 hp with hp | hp
    · exact h p hp
    · rw [List.mem_singleton.1 hp]
  · exact h
theorem Idle.drop {S : Q} (h : Idle S) (k : Int) : Idle (S.dropS k) := by
  unfold Q.dropS
  split
  · exact fun p hp => h p (strike_mem.1 hp).1
  · exact h
theorem Idle.drain {S : Q} (h : Idle S) (k : Int) : Idle (S.drainS k) := by
  intro p hp
  have hp' : p ∈ Plain.updL S.lanes k (fun L => { L with drains := true }) := hp
  rcases Plain.updL_mem hp' with hp | ⟨L, hL, rfl⟩
  · exact h p hp
  · exact h (k, L) hL
theorem Idle.dropE {S : Q} (h : Idle S) (k : Int) : S.dropE k = if S.has k = true then 0 else 2002 := by
  unfold Q.dropE Q.has
  cases hl : S.lane k with
  | none => rfl
  | some L =>
    have := h _ (look_mem hl)
    simp only at this
    simp [this]
theorem addE_eq {S : Q} {k : Int} (hk : 0 ≤ k) : S.addE k = if S.has k = true then 2000 else if 8 ≤ S.lanes.length then 2001 else 0 := by
  unfold Q.addE Q.has
  have : ¬ k < 0 := by omega
  simp [this]
theorem drainE_eq (S : Q) (k : Int) : S.drainE k = if S.has k = true then 0 else 2002 := rfl
theorem len_add {S : Q} {k : Int} (he : S.addE k = 0) : (S.addS k).lanes.length = S.lanes.length + 1 := by
  unfold Q.addS
  rw [if_pos he]
  simp
theorem len_drain (S : Q) (k : Int) : (S.drainS k).lanes.length = S.lanes.length := by
  show (Plain.updL S.lanes k (fun L => { L with drains := true })).length = _
  exact Plain.updL_length _ _ _
theorem len_drop {S : Q} (hn : (S.lanes.map (·.1)).Nodup) {k : Int} (hh : S.has k = true) (he : S.dropE k = 0) : (S.dropS k).lanes.length + 1 = S.lanes.length := by
  have := strike_length hn k
  unfold Q.has Q.lane at hh
  rw [hh] at this
  unfold Q.dropS
  rw [if_pos he]
  exact this
end Plain
open Go.RowKit
open Plain
theorem num_still (n : Int) (w : World) : Calls Try.prog 13 #[.int .i64 n] w fun e w' => e = .returned (.int .i64 n) ∧ w' = w := (num_any n w).mono fun _e _w' ⟨a, b⟩ => ⟨a, b.symm⟩
theorem row_cell {w : World} {g : Nat} {S : Q} (h : w.heap[g]? = some (.cells (hasRow S) 4 (0, 0))) (j : Nat) (hj : j < 16) : w.cell? ⟨g, j, none⟩ = some (.bool (S.has j)) := by
  rw [cell_of h, hasRow_get S j hj]
/-- a store into a kept block. -/
theorem QP.setKept {w0 : World} {p : Nat} {S : Q} {w : World} {g : Nat} {A : Array Value} {ty : TypeId} (h : QP w0 p [(g, .cells A ty (0, 0))] S w) (hg : w0.heap.size ≤ g) (k : Nat) (v : Value) :
    QP w0 p [(g, .cells (A.setIfInBounds k v) ty (0, 0))] S (w.setCell ⟨g, k, none⟩ v) := by
  obtain ⟨m, hp, h⟩ := h
  obtain ⟨h1, h2⟩ := h.kept _ List.mem_cons_self
  have o : Only [g] w (w.setCell ⟨g, k, none⟩ v) := (Only.refl _ _).setCell (.inl (by simp)) _
  refine ⟨m, hp, h.pq.only o (fun j hj => by simp only [List.mem_singleton]; intro e; rw [e] at hj; exact h2 hj), h.ok, h.only.trans' o (fun x hx => by rw [List.mem_singleton.1 hx]; exact .inr hg), h.fresh, fun b hb => ?_⟩
  rw [List.mem_singleton.1 hb]
  exact ⟨heap_setCell_same h1 v, h2⟩
end Go.Proofs.Ytjcndeanojeffaa

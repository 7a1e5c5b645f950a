/- Chapter 19: a row of bools that tells which links are there. -/
import Derived.Test.YtcfgbfabokhjcaaWhole
namespace Go.Proofs.Ytcfgbfabokhjcaa
namespace Plain
open Go
def hasRow (S : J) : Array Value := ((List.range 32).map fun (k : Nat) => Value.bool (S.has k)).toArray
theorem hasRow_get (S : J) (j : Nat) (h : j < 32) : (hasRow S)[j]? = some (.bool (S.has j)) := by
  unfold hasRow
  rw [List.getElem?_toArray, List.getElem?_map, List.getElem?_range h]
  rfl
theorem hasRow_ext {A : Array Value} (S : J) (hA : A.size = 32) (h : ∀ j, j < 32 → A[j]? = some (.bool (S.has j))) : A = hasRow S := by
  apply Array.ext_getElem?
  intro i
  by_cases hi : i < 32
  · rw [h i hi, hasRow_get S i hi]
  · rw [Array.getElem?_eq_none (by omega), Array.getElem?_eq_none (by simp [hasRow]; omega)]
theorem hasRow_size (S : J) : (hasRow S).size = 32 := by simp [hasRow]
theorem has_add {S : J} {k : Int} (he : addE S k = 0) (j : Int) : (addS S k).has j = (S.has j || (j == k)) := by
  rw [has_keys, has_keys]
  unfold addS
  rw [if_pos he, Bool.eq_iff_iff]
  simp [or_comm]
theorem has_drop {S : J} {k : Int} (hh : S.has k = true) (j : Int) : (dropS S k).has j = (S.has j && (j != k)) := by
  unfold dropS
  rw [if_pos hh]
  show (look (strike S.links k) j).isSome = _
  rw [look_strike]
  by_cases e : j = k
  · simp [e]
  · rw [if_neg e]
    have : (j != k) = true := by simp [e]
    rw [this, Bool.and_true]
    rfl
theorem row_add {S : J} {k : Nat} (_hk : k < 32) (he : addE S k = 0) : (hasRow S).setIfInBounds k (.bool true) = hasRow (addS S k) := by
  refine hasRow_ext _ (by rw [Array.size_setIfInBounds, hasRow_size]) (fun j hj => ?_)
  rw [has_add he]
  by_cases e : k = j
  · subst e
    rw [Array.getElem?_setIfInBounds_self_of_lt (by rw [hasRow_size]; exact hj)]
    simp
  · rw [Array.getElem?_setIfInBounds_ne e, hasRow_get S j hj]
    have : ((j : Int) == (k : Int)) = false := by simp; omega
    rw [this, Bool.or_false]
theorem row_drop {S : J} {k : Nat} (_hk : k < 32) (hh : S.has k = true) : (hasRow S).setIfInBounds k (.bool false) = hasRow (dropS S k) := by
  refine hasRow_ext _ (by rw [Array.size_setIfInBounds, hasRow_size]) (fun j hj => ?_)
  rw [has_drop hh]
  by_cases e : k = j
  · subst e
    rw [Array.getElem?_setIfInBounds_self_of_lt (by rw [hasRow_size]; exact hj)]
    simp
  · rw [Array.getElem?_setIfInBounds_ne e, hasRow_get S j hj]
    have : ((j : Int) != (k : Int)) = true := by simp; omega
    rw [this, Bool.and_true]
theorem row_keys {S T : J} (h : T.links.map (·.1) = S.links.map (·.1)) : hasRow T = hasRow S := by
  unfold hasRow
  congr 1
  refine List.map_congr_left (fun j _ => ?_)
  rw [has_keys, has_keys, h]
theorem len_drop {S : J} (hn : (S.links.map (·.1)).Nodup) {k : Int} (hh : S.has k = true) : (dropS S k).links.length + 1 = S.links.length := by
  have := strike_length hn k
  rw [← has_look, hh] at this
  unfold dropS
  rw [if_pos hh]
  exact this
theorem len_add {S : J} {k : Int} (he : addE S k = 0) : (addS S k).links.length = S.links.length + 1 := by
  unfold addS
  rw [if_pos he]
  simp
theorem keys_len {S T : J} (h : T.links.map (·.1) = S.links.map (·.1)) : T.links.length = S.links.length := by
  have := congrArg List.length h
  simpa using this
theorem may_whole (t : Int) (d : ByteArray) (hd : d.size ≤ 2048) : mayF true (wholeF t d) = true := by
  unfold mayF wholeF ring
  simp
  omega
/-- what JoinLinks keeps. -/
structure LinkS (t : Nat) (S : J) : Prop where
  few : (S.held.length : Int) ≤ S.most
  most : S.most = 8
  short : S.short = true
  sum : S.lost + S.held.length ≤ t
theorem LinkS.add {t : Nat} {S : J} (h : LinkS t S) (k : Int) : LinkS t (addS S k) := by
  unfold addS
  split
  · exact ⟨h.few, h.most, h.short, h.sum⟩
  · exact h
theorem LinkS.drop {t : Nat} {S : J} (h : LinkS t S) (k : Int) : LinkS (t + 1) (dropS S k) := by
  have := h.sum
  unfold dropS
  split
  · exact ⟨h.few, h.most, h.short, by show S.lost + (S.held.length : Int) ≤ _; omega⟩
  · exact ⟨h.few, h.most, h.short, by omega⟩
theorem LinkS.put {t : Nat} {S T : J} (h : LinkS t S) (hk : PutK S T) : LinkS (t + 1) T :=
  ⟨hk.few, hk.most.trans h.most, hk.short.trans h.short, by have := hk.sum; have := h.sum; omega⟩
theorem put_code {t : Nat} {S : J} (h : LinkS t S) (k q : Int) (d : ByteArray) (hd : d.size ≤ 2048) : putE S k (wholeF q d) = if S.has k = true then 0 else 1902 := by
  unfold putE
  rw [h.short, may_whole q d hd]
  cases S.has k <;> rfl
end Plain
open Go.RowKit
open Plain
theorem num_still (n : Int) (w : World) : Calls Try.prog 14 #[.int .i64 n] w fun e w' => e = .returned (.int .i64 n) ∧ w' = w := (num_any n w).mono fun _e _w' ⟨a, b⟩ => ⟨a, b.symm⟩
theorem row_cell {w : World} {g : Nat} {S : J} (h : w.heap[g]? = some (.cells (hasRow S) 4 (0, 0))) (j : Nat) (hj : j < 32) : w.cell? ⟨g, j, none⟩ = some (.bool (S.has j)) := by
  rw [cell_of h, hasRow_get S j hj]
end Go.Proofs.Ytcfgbfabokhjcaa

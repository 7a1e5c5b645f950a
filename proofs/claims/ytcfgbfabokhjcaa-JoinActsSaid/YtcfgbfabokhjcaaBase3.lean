/- Small laws on append: a source that may be nil. Over any program. -/
import Derived.Test.YtcfgbfabokhjcaaBase
namespace Go.Proofs.Ytcfgbfabokhjcaa
open Go.RowKit

/-- what is appended: nil, or cells at an address. -/
def Src (w : World) (size : Nat) (ax : Option Addr) (m : Nat) (news : List Value) : Prop :=
  news.length = m * size ∧ (∀ u ∈ news, u.oneCell' = true) ∧ ((ax = none ∧ m = 0) ∨ ∃ a, ax = some a ∧ ∀ j u, news[j]? = some u → w.cell? (a.add j) = some u)

section
variable {P : Program} (w : World)
theorem run_append_sl_nil (t ty e : TypeId) (i : TypeInfo) (ht : P.underlying t = some (.slice e)) (hi : P.info? e = some i)
    (ao : Option Addr) (n cap c : Nat) (hn : ao = none → n = 0 ∧ cap = 0) (hnc : n ≤ cap) :
    (Builtin.append_ #[t, t] ty #[.slice ao n cap, .slice none 0 c]).run P w = .ok (.slice ao n cap) w := by
  cases ao with
  | none =>
    obtain ⟨rfl, rfl⟩ := hn rfl
    simp [Builtin.append_, run_underlying ht, sizeOf, typeInfo, hi, Builtin.lenOf, Builtin.firstCells]
  | some a => simp [Builtin.append_, run_underlying ht, sizeOf, typeInfo, hi, Builtin.lenOf, Builtin.firstCells, hnc, storeCells]

theorem run_append_src (t ty e : TypeId) (i : TypeInfo) (z : Value) (size bytes : Nat) (ht : P.underlying t = some (.slice e)) (hi : P.info? e = some i) (hz : i.zero = some z)
    (hsize : i.size = size) (hby : i.bytes = bytes) (hzs : z.cells.size = size)
    (ao : Option Addr) (n cap : Nat) (xs : List Value) (hown : Sl w e size ao n cap xs)
    (ax : Option Addr) (m c : Nat) (news : List Value) (hsrc : Src w size ax m news)
    (h63 : n + m ≤ maxLen) (hbytes : (n + m) * bytes ≤ 140737488355328) :
    ∃ ao' cap' w', (Builtin.append_ #[t, t] ty #[.slice ao n cap, .slice ax m c]).run P w = .ok (.slice ao' (n + m) cap') w' ∧ Sl w' e size ao' (n + m) cap' (xs ++ news) ∧ w.grownBy w' (blk ao) ∧
      (blk ao' = blk ao ∨ blk ao' = some w.heap.size) := by
  obtain ⟨hl, h1, (⟨rfl, rfl⟩ | ⟨a, rfl, hc⟩)⟩ := hsrc
  · have hn : news = [] := List.eq_nil_of_length_eq_zero (by simpa using hl)
    subst hn
    refine ⟨ao, cap, w, run_append_sl_nil w t ty e i ht hi ao n cap c ?_ hown.2.1, by simpa using hown, ⟨rfl, rfl, rfl, Nat.le_refl _, fun _ _ _ => rfl⟩, .inl rfl⟩
    intro h
    rcases hown.2.2.2 with ⟨_, h2⟩ | ⟨g, off, cur, h2, _⟩
    · have := hown.2.1; omega
    · rw [h] at h2; cases h2
  · exact run_append_sl w t ty e i z size bytes ht hi hz hsize hby hzs ao n cap xs hown a m c news hl hc h1 h63 hbytes

theorem wpList_append_src {ops : Array Oper} {rest : List Oper} {o : Oper} {a : Act} {Q : Exit → Act → World → Prop} (hgd : o.guard = none) (s x : Operand) (t : TypeId)
    (ho : o.op = .call { callee := .builtin .append, args := #[s, x], argTypes := #[t, t] })
    (e : TypeId) (i : TypeInfo) (z : Value) (size bytes : Nat) (ht : P.underlying t = some (.slice e)) (hi : P.info? e = some i) (hz : i.zero = some z)
    (hsize : i.size = size) (hby : i.bytes = bytes) (hzs : z.cells.size = size)
    (ao : Option Addr) (n cap : Nat) (xs : List Value) (hs : a.eval s = .slice ao n cap) (hown : Sl w e size ao n cap xs)
    (ax : Option Addr) (m c : Nat) (news : List Value) (hx : a.eval x = .slice ax m c) (hsrc : Src w size ax m news)
    (h63 : n + m ≤ maxLen) (hbytes : (n + m) * bytes ≤ 140737488355328)
    (h : ∀ ao' cap' w', Sl w' e size ao' (n + m) cap' (xs ++ news) → w.grownBy w' (blk ao) → (blk ao' = blk ao ∨ blk ao' = some w.heap.size) → wpList P ops Q rest (a.put o.dst (.slice ao' (n + m) cap')) w') : wpList P ops Q (o :: rest) a w :=
  wpList_plain hgd fun _ hK => by
    obtain ⟨ao', cap', w', hr, h2, h3, h4⟩ := run_append_src (P := P) w t o.type e i z size bytes ht hi hz hsize hby hzs ao n cap xs hown ax m c news hsrc h63 hbytes
    unfold Oper.wp execOp
    simp only [ho, resolve, invoke, builtin, Sem.run_bind, Sem.run_pure, Result.andThen_ok, List.map_toArray, List.map_cons, List.map_nil, hs, hx, hr]
    exact hK _ _ (h ao' cap' w' h2 h3 h4)
end

/-- a slice as a source. -/
theorem Sl.src {w : World} {e size : Nat} {ao : Option Addr} {n cap : Nat} {xs : List Value} (h : Sl w e size ao n cap xs) (h1 : ∀ u ∈ xs, u.oneCell' = true) : Src w size ao n xs := by
  refine ⟨h.1, h1, ?_⟩
  rcases h.2.2.2 with ⟨rfl, h2⟩ | ⟨g, off, cur, rfl, _⟩
  · left; exact ⟨rfl, by have := h.2.1; omega⟩
  · right; exact ⟨_, rfl, fun j u hu => by rw [Addr.add_lit]; exact h.cells j u hu⟩

/-- a slice that was just laid. -/
theorem sl_laid (w : World) (c : Array Value) (t size n : Nat) (h : c.size = n * size) (hn : n ≤ maxLen) : Sl (w.alloc (.cells c t)) t size (some ⟨w.heap.size, 0, none⟩) n n c.toList := by
  refine ⟨by simpa using h, Nat.le_refl _, hn, .inr ⟨w.heap.size, 0, c, rfl, heap_alloc_new' w _, by omega, ?_⟩⟩
  rw [List.drop_zero, ← h]
  exact List.take_of_length_le (by simp)

end Go.Proofs.Ytcfgbfabokhjcaa

/- Chapter 19: four rows of fragments in an array, as JoinLosses has them. -/
import Derived.Test.YtcfgbfabokhjcaaCuts
import Derived.Test.YtcfgbfabokhjcaaRegion6
namespace Go.Proofs.Ytcfgbfabokhjcaa
open Go.RowKit
open Plain

/-- append, as one operation. -/
theorem wpO_append_sl {P : Program} (w : World) {o : Oper} {a : Act} {K : Act → World → Prop} {Q : Exit → Act → World → Prop} (s x : Operand) (t : TypeId)
    (ho : o.op = .call { callee := .builtin .append, args := #[s, x], argTypes := #[t, t] })
    (e : TypeId) (i : TypeInfo) (z : Value) (size bytes : Nat) (ht : P.underlying t = some (.slice e)) (hi : P.info? e = some i) (hz : i.zero = some z)
    (hsize : i.size = size) (hby : i.bytes = bytes) (hzs : z.cells.size = size)
    (ao : Option Addr) (n cap : Nat) (xs : List Value) (hs : a.eval s = .slice ao n cap) (hown : Sl w e size ao n cap xs)
    (ad : Addr) (m c : Nat) (news : List Value) (hx : a.eval x = .slice (some ad) m c) (hl : news.length = m * size) (hnews : ∀ j u, news[j]? = some u → w.cell? (ad.add j) = some u) (h1 : ∀ u ∈ news, u.oneCell' = true)
    (h63 : n + m ≤ maxLen) (hbytes : (n + m) * bytes ≤ 140737488355328)
    (h : ∀ ao' cap' w', Sl w' e size ao' (n + m) cap' (xs ++ news) → w.grownBy w' (blk ao) → (blk ao' = blk ao ∨ blk ao' = some w.heap.size) → K (a.put o.dst (.slice ao' (n + m) cap')) w') : o.wp P a w K Q := by
  obtain ⟨ao', cap', w', hr, h2, h3, h4⟩ := run_append_sl (P := P) w t o.type e i z size bytes ht hi hz hsize hby hzs ao n cap xs hown ad m c news hl hnews h1 h63 hbytes
  unfold Oper.wp execOp
  simp only [ho, resolve, invoke, builtin, Sem.run_bind, Sem.run_pure, Result.andThen_ok, List.map_toArray, List.map_cons, List.map_nil, hs, hx, hr]
  exact h ao' cap' w' h2 h3 h4

theorem flatF_tail (l : List Fr) : (Cutp.flatF l).drop (1 * 4) = Cutp.flatF (l.drop 1) := by
  cases l with
  | nil => rfl
  | cons x l => simp [Cutp.flatF, Cutp.frCells]
theorem str_same (a b : ByteArray) : (a.toList == b.toList) = decide (a = b) := by
  rw [ByteArray.toList_eq, ByteArray.toList_eq, Bool.eq_iff_iff]
  simp only [beq_iff_eq, decide_eq_true_eq]
  constructor
  · intro h
    exact ByteArray.ext (Array.ext' h)
  · rintro rfl
    rfl
def slV (x : Option Addr × Nat) (l : List Fr) : Value := .slice x.1 l.length x.2
def row4 (W : Nat → Option Addr × Nat) (L : Nat → List Fr) : Array Value := #[slV (W 0) (L 0), slV (W 1) (L 1), slV (W 2) (L 2), slV (W 3) (L 3)]
def setN {α : Type} (F : Nat → α) (i : Nat) (x : α) (j : Nat) : α := if j = i then x else F j
theorem setN_at {α : Type} (F : Nat → α) (i : Nat) (x : α) : setN F i x i = x := if_pos rfl
theorem setN_ne {α : Type} (F : Nat → α) {i j : Nat} (x : α) (h : j ≠ i) : setN F i x j = F j := if_neg h
theorem row4_set (W : Nat → Option Addr × Nat) (L : Nat → List Fr) {c : Nat} (hc : c < 4) (x : Option Addr × Nat) (l : List Fr) : (row4 W L).setIfInBounds c (slV x l) = row4 (setN W c x) (setN L c l) := by
  have : c = 0 ∨ c = 1 ∨ c = 2 ∨ c = 3 := by omega
  rcases this with rfl | rfl | rfl | rfl <;> rfl
theorem row4_get (W : Nat → Option Addr × Nat) (L : Nat → List Fr) {c : Nat} (hc : c < 4) : (row4 W L)[c]? = some (slV (W c) (L c)) := by
  have : c = 0 ∨ c = 1 ∨ c = 2 ∨ c = 3 := by omega
  rcases this with rfl | rfl | rfl | rfl <;> rfl

/-- the array lies in block g; each row of it in a younger block of its own; X: a block that is none of theirs. -/
structure Wires (w : World) (g : Nat) (W : Nat → Option Addr × Nat) (L : Nat → List Fr) (fs : List Fr) (X : Option Nat) : Prop where
  obj : w.heap[g]? = some (.cells (row4 W L) 53 (0, 0))
  sl : ∀ j, j < 4 → Sl w 33 4 (W j).1 (L j).length (W j).2 (Cutp.flatF (L j))
  mem : ∀ j, j < 4 → ∀ f ∈ L j, ∃ n, ∃ h : n < fs.length, f = fs[n]
  len : ∀ j, j < 4 → (L j).length ≤ 1000
  own : ∀ j, j < 4 → ∀ k, blk (W j).1 = some k → g < k ∧ X ≠ some k
  apart : ∀ i j, i < 4 → j < 4 → i ≠ j → ∀ k, blk (W i).1 = some k → blk (W j).1 ≠ some k
theorem Wires.start (w : World) (fs : List Fr) : Wires (w.alloc (.cells #[.slice none 0 0, .slice none 0 0, .slice none 0 0, .slice none 0 0] 53)) w.heap.size (fun _ => (none, 0)) (fun _ => []) fs none :=
  ⟨heap_alloc_new' w _, fun _ _ => Sl.nil _ _ _, fun _ _ _ h => absurd h (by simp), fun _ _ => (by simp), fun _ _ _ h => absurd h (by simp [blk]), fun _ _ _ _ _ _ h => absurd h (by simp [blk])⟩
theorem Wires.cell {w : World} {g : Nat} {W : Nat → Option Addr × Nat} {L : Nat → List Fr} {fs : List Fr} {X : Option Nat} (h : Wires w g W L fs X) {c : Nat} (hc : c < 4) : w.cell? ⟨g, c, none⟩ = some (.slice (W c).1 (L c).length (W c).2) := by
  rw [cell_of h.obj, row4_get W L hc]
  rfl
theorem Wires.old {w w' : World} {g : Nat} {W : Nat → Option Addr × Nat} {L : Nat → List Fr} {fs : List Fr} {X : Option Nat} {S : List Nat} (h : Wires w g W L fs X) (o : Only S w w') (hS : ∀ k ∈ S, k < g ∨ X = some k) (hX : X ≠ some g) : Wires w' g W L fs X := by
  refine ⟨o.at h.obj (fun hm => ?_), fun j hj => (h.sl j hj).only o (fun k hk hm => ?_), h.mem, h.len, h.own, h.apart⟩
  · rcases hS _ hm with e | e
    · omega
    · exact hX e
  · obtain ⟨h1, h2⟩ := h.own j hj k hk
    rcases hS _ hm with e | e
    · omega
    · exact h2 e
theorem Wires.avoid {w : World} {g : Nat} {W : Nat → Option Addr × Nat} {L : Nat → List Fr} {fs : List Fr} {X Y : Option Nat} (h : Wires w g W L fs X) (hY : Y = X ∨ Y = none ∨ Y = some w.heap.size) : Wires w g W L fs Y := by
  refine ⟨h.obj, h.sl, h.mem, h.len, fun j hj k hk => ⟨(h.own j hj k hk).1, ?_⟩, h.apart⟩
  rcases hY with rfl | rfl | rfl
  · exact (h.own j hj k hk).2
  · simp
  · have := (h.sl j hj).lt hk
    simp; omega
theorem Wires.grow {w w' : World} {g : Nat} {W : Nat → Option Addr × Nat} {L : Nat → List Fr} {fs : List Fr} {X Y : Option Nat} (h : Wires w g W L fs X) (o : Only X.toList w w') (hX : X ≠ some g) (hY : Y = X ∨ Y = some w.heap.size) : Wires w' g W L fs Y := by
  have h' := h.old o (fun k hk => .inr (by simpa using hk)) hX
  refine ⟨h'.obj, h'.sl, h'.mem, h'.len, fun j hj k hk => ⟨(h.own j hj k hk).1, ?_⟩, h'.apart⟩
  rcases hY with rfl | rfl
  · exact (h.own j hj k hk).2
  · have := (h.sl j hj).lt hk
    simp; omega
/-- one row turned: it grew in its own block, or lies in a new one. -/
theorem Wires.turn {w w' : World} {g : Nat} {W : Nat → Option Addr × Nat} {L : Nat → List Fr} {fs : List Fr} {X : Option Nat} (h : Wires w g W L fs X) {c : Nat} (hc : c < 4) (hX : ∀ k, X = some k → k < w.heap.size) {ao : Option Addr} {cap : Nat} {l : List Fr}
    (hs : Sl w' 33 4 ao l.length cap (Cutp.flatF l)) (o : Only (blk (W c).1).toList w w') (hb : blk ao = blk (W c).1 ∨ ∀ k, blk ao = some k → w.heap.size ≤ k) (hm : ∀ f ∈ l, ∃ n, ∃ h : n < fs.length, f = fs[n]) (hl : l.length ≤ 1000) :
    Wires (w'.setCell ⟨g, c, none⟩ (.slice ao l.length cap)) g (setN W c (ao, cap)) (setN L c l) fs X ∧ Only (g :: (blk (W c).1).toList) w (w'.setCell ⟨g, c, none⟩ (.slice ao l.length cap)) := by
  have hg : g < w.heap.size := lt_of_block h.obj
  have hng : g ∉ (blk (W c).1).toList := fun hm => by
    have := (h.own c hc g (by simpa using hm)).1
    omega
  have hobj := o.at h.obj hng
  have hown : ∀ k, blk ao = some k → g < k ∧ X ≠ some k := fun k hk => by
    rcases hb with e | e
    · exact h.own c hc k (e.symm.trans hk)
    · have := e k hk
      refine ⟨by omega, fun e2 => ?_⟩
      have := hX k e2
      omega
  have o2 : Only [g] w' (w'.setCell ⟨g, c, none⟩ (.slice ao l.length cap)) := (Only.refl _ _).setCell (.inl (by simp)) _
  refine ⟨⟨?_, fun j hj => ?_, fun j hj f hf => ?_, fun j hj => ?_, fun j hj k hk => ?_, fun i j hi hj hij k hk hk2 => ?_⟩, (o.mono (fun k hk => List.mem_cons_of_mem _ hk)).trans (o2.mono (by simp))⟩
  · rw [heap_setCell_same hobj]
    show some (Obj.cells ((row4 W L).setIfInBounds c (slV (ao, cap) l)) 53 (0, 0)) = _
    rw [row4_set W L hc]
  · by_cases e : j = c
    · rw [e, setN_at, setN_at]
      exact hs.only o2 (fun k hk => by have := (hown k hk).1; simp; omega)
    · rw [setN_ne W _ e, setN_ne L _ e]
      refine ((h.sl j hj).only o (fun k hk hm => ?_)).only o2 (fun k hk => by have := (h.own j hj k hk).1; simp; omega)
      exact h.apart j c hj hc e k hk (by simpa using hm)
  · by_cases e : j = c
    · rw [e, setN_at] at hf
      exact hm f hf
    · rw [setN_ne L _ e] at hf
      exact h.mem j hj f hf
  · by_cases e : j = c
    · rw [e, setN_at]; exact hl
    · rw [setN_ne L _ e]; exact h.len j hj
  · by_cases e : j = c
    · rw [e, setN_at] at hk
      exact hown k hk
    · rw [setN_ne W _ e] at hk
      exact h.own j hj k hk
  · have new : ∀ x y, x < 4 → x ≠ c → blk (W x).1 = some y → blk ao ≠ some y := fun x y hx hxc hy hy2 => by
      rcases hb with e | e
      · exact h.apart x c hx hc hxc y hy (e.symm.trans hy2)
      · have h1 := e y hy2
        have h2 := (h.sl x hx).lt hy
        omega
    by_cases e : i = c
    · rw [e, setN_at] at hk
      have ej : j ≠ c := fun e2 => hij (e.trans e2.symm)
      rw [setN_ne W _ ej] at hk2
      exact new j k hj ej hk2 hk
    · rw [setN_ne W _ e] at hk
      by_cases ej : j = c
      · rw [ej, setN_at] at hk2
        exact new i k hi e hk hk2
      · rw [setN_ne W _ ej] at hk2
        exact h.apart i j hi hj hij k hk hk2
end Go.Proofs.Ytcfgbfabokhjcaa

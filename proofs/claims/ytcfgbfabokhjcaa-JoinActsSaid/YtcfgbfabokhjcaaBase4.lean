/- Laws on slicing: 'x[lo:]', 'x[:hi]', at a slice that reads as a list. Over any program. -/
import Derived.Test.YtcfgbfabokhjcaaBase3
namespace Go.Proofs.Ytcfgbfabokhjcaa
open Go.RowKit

/-- 'x[lo:]' in memory; 'x[:k]'. -/
theorem Sl.lo {w : World} {e size g off n cap : Nat} {xs : List Value} (h : Sl w e size (Option.some ⟨g, off, none⟩) n cap xs) (lo : Nat) (hlo : lo ≤ n) :
    Sl w e size (if cap = lo then Option.some ⟨g, off, none⟩ else Option.some ⟨g, off + lo * size, none⟩) (n - lo) (cap - lo) (xs.drop (lo * size)) := by
  have hnc := h.2.1
  have hlen := h.1
  have hml := h.2.2.1
  rcases h.2.2.2 with ⟨h1, _⟩ | ⟨g', off', cur, h1, hg, hcs, htake⟩
  · cases h1
  · cases h1
    refine ⟨by rw [List.length_drop, hlen, Nat.sub_mul], by omega, by omega, .inr ?_⟩
    have e1 : n * size = (n - lo) * size + lo * size := by rw [← Nat.add_mul]; congr 1; omega
    have e2 : cap * size = (cap - lo) * size + lo * size := by rw [← Nat.add_mul]; congr 1; omega
    by_cases hc : cap = lo
    · rw [if_pos hc]
      have hn1 : n = lo := by omega
      subst hc hn1
      refine ⟨g, off, cur, rfl, hg, by omega, ?_⟩
      simp at hlen ⊢
      omega
    · rw [if_neg hc]
      refine ⟨g, off + lo * size, cur, rfl, hg, by omega, ?_⟩
      rw [← htake, List.drop_take, List.drop_drop, show n * size - lo * size = (n - lo) * size by omega]
theorem Sl.hi {w : World} {e size n cap : Nat} {ao : Option Addr} {xs : List Value} (h : Sl w e size ao n cap xs) (k : Nat) (hk : k ≤ n) : Sl w e size ao k cap (xs.take (k * size)) := by
  have hnc := h.2.1
  have hlen := h.1
  have hml := h.2.2.1
  have e1 : k * size ≤ n * size := Nat.mul_le_mul_right _ hk
  refine ⟨by rw [List.length_take, hlen]; omega, by omega, hml, ?_⟩
  rcases h.2.2.2 with h1 | ⟨g, off, cur, h1, hg, hcs, htake⟩
  · exact .inl h1
  · exact .inr ⟨g, off, cur, h1, hg, hcs, by rw [← htake, List.take_take, show min (k * size) (n * size) = k * size by omega]⟩

section
variable {P : Program} (w : World)
theorem run_slice_lo_sl (t e : TypeId) (i : TypeInfo) (size : Nat) (ht : P.underlying t = some (.slice e)) (hi : P.info? e = some i) (hsize : i.size = size)
    (ao : Option Addr) (n cap : Nat) (xs : List Value) (hown : Sl w e size ao n cap xs) (lo : Nat) (hlo : lo ≤ n) (hn : 1 ≤ n) :
    ∃ ao', (Instr.sliceAt t (.slice ao n cap) (some (.int .i64 lo)) none none).run P w = .ok (.slice ao' (n - lo) (cap - lo)) w ∧ Sl w e size ao' (n - lo) (cap - lo) (xs.drop (lo * size)) ∧ blk ao' = blk ao := by
  subst hsize
  obtain ⟨g, off, rfl⟩ := hown.some (by omega)
  have hnc := hown.2.1
  have hlen := hown.1
  have hml := hown.2.2.1
  rcases hown.2.2.2 with ⟨h1, _⟩ | ⟨g', off', cur, h1, hg, hcs, htake⟩
  · cases h1
  · cases h1
    have hr : (Instr.sliceAt t (.slice (some ⟨g, off, none⟩) n cap) (some (.int .i64 lo)) none none).run P w = .ok (.slice (if cap = lo then some ⟨g, off, none⟩ else some ⟨g, off + lo * i.size, none⟩) (n - lo) (cap - lo)) w := by
      simp [Instr.sliceAt, Instr.slice, Instr.sliceBounds, Instr.sliceBound, asIntOf, run_underlying ht, sizeOf, typeInfo, hi, Addr.add_lit, hlo]
    refine ⟨_, hr, ?_, by split <;> rfl⟩
    refine ⟨by rw [List.length_drop, hlen, Nat.sub_mul], by omega, by omega, .inr ?_⟩
    have e1 : n * i.size = (n - lo) * i.size + lo * i.size := by rw [← Nat.add_mul]; congr 1; omega
    have e2 : cap * i.size = (cap - lo) * i.size + lo * i.size := by rw [← Nat.add_mul]; congr 1; omega
    by_cases hc : cap = lo
    · rw [if_pos hc]
      have hn1 : n = lo := by omega
      subst hc hn1
      refine ⟨g, off, cur, rfl, hg, by omega, ?_⟩
      simp at hlen ⊢
      omega
    · rw [if_neg hc]
      refine ⟨g, off + lo * i.size, cur, rfl, hg, by omega, ?_⟩
      rw [← htake, List.drop_take, List.drop_drop, show n * i.size - lo * i.size = (n - lo) * i.size by omega]

theorem run_slice_hi_sl (t e : TypeId) (i : TypeInfo) (size : Nat) (ht : P.underlying t = some (.slice e)) (hi : P.info? e = some i) (hsize : i.size = size)
    (ao : Option Addr) (n cap : Nat) (xs : List Value) (hown : Sl w e size ao n cap xs) (k : Nat) (hk : k ≤ n) (hn : 1 ≤ n) :
    (Instr.sliceAt t (.slice ao n cap) none (some (.int .i64 k)) none).run P w = .ok (.slice ao k cap) w ∧ Sl w e size ao k cap (xs.take (k * size)) := by
  subst hsize
  obtain ⟨g, off, rfl⟩ := hown.some (by omega)
  have hnc := hown.2.1
  have hlen := hown.1
  have hml := hown.2.2.1
  rcases hown.2.2.2 with ⟨h1, _⟩ | ⟨g', off', cur, h1, hg, hcs, htake⟩
  · cases h1
  · cases h1
    have hkc : k ≤ cap := by omega
    have e1 : k * i.size ≤ n * i.size := Nat.mul_le_mul_right _ hk
    refine ⟨?_, ?_⟩
    · simp [Instr.sliceAt, Instr.slice, Instr.sliceBounds, Instr.sliceBound, asIntOf, run_underlying ht, sizeOf, typeInfo, hi, hkc, Addr.add_lit]
    · refine ⟨by rw [List.length_take, hlen]; omega, by omega, hml, .inr ⟨g, off, cur, rfl, hg, hcs, ?_⟩⟩
      rw [← htake, List.take_take, show min (k * i.size) (n * i.size) = k * i.size by omega]

theorem wpList_slice_lo {ops : Array Oper} {rest : List Oper} {o : Oper} {a : Act} {Q : Exit → Act → World → Prop} (hgd : o.guard = none) (s x : Operand) (t : TypeId)
    (ho : o.op = .slice t s (some x) none none)
    (e : TypeId) (i : TypeInfo) (size : Nat) (ht : P.underlying t = some (.slice e)) (hi : P.info? e = some i) (hsize : i.size = size)
    (ao : Option Addr) (n cap : Nat) (xs : List Value) (hs : a.eval s = .slice ao n cap) (hown : Sl w e size ao n cap xs) (lo : Nat) (hx : a.eval x = .int .i64 lo) (hlo : lo ≤ n) (hn : 1 ≤ n)
    (h : ∀ ao', Sl w e size ao' (n - lo) (cap - lo) (xs.drop (lo * size)) → blk ao' = blk ao → wpList P ops Q rest (a.put o.dst (.slice ao' (n - lo) (cap - lo))) w) : wpList P ops Q (o :: rest) a w :=
  wpList_plain hgd fun _ hK => by
    obtain ⟨ao', hr, h2, h3⟩ := run_slice_lo_sl (P := P) w t e i size ht hi hsize ao n cap xs hown lo hlo hn
    unfold Oper.wp execOp
    simp only [ho, hs, hx, Option.map_some, Option.map_none, Sem.run_bind, Sem.run_pure, Result.andThen_ok, hr]
    exact hK _ _ (h ao' h2 h3)

theorem wpList_slice_hi {ops : Array Oper} {rest : List Oper} {o : Oper} {a : Act} {Q : Exit → Act → World → Prop} (hgd : o.guard = none) (s x : Operand) (t : TypeId)
    (ho : o.op = .slice t s none (some x) none)
    (e : TypeId) (i : TypeInfo) (size : Nat) (ht : P.underlying t = some (.slice e)) (hi : P.info? e = some i) (hsize : i.size = size)
    (ao : Option Addr) (n cap : Nat) (xs : List Value) (hs : a.eval s = .slice ao n cap) (hown : Sl w e size ao n cap xs) (k : Nat) (hx : a.eval x = .int .i64 k) (hk : k ≤ n) (hn : 1 ≤ n)
    (h : Sl w e size ao k cap (xs.take (k * size)) → wpList P ops Q rest (a.put o.dst (.slice ao k cap)) w) : wpList P ops Q (o :: rest) a w :=
  wpList_plain hgd fun _ hK => by
    obtain ⟨hr, h2⟩ := run_slice_hi_sl (P := P) w t e i size ht hi hsize ao n cap xs hown k hk hn
    unfold Oper.wp execOp
    simp only [ho, hs, hx, Option.map_some, Option.map_none, Sem.run_bind, Sem.run_pure, Result.andThen_ok, hr]
    exact hK _ _ (h h2)
end
end Go.Proofs.Ytcfgbfabokhjcaa

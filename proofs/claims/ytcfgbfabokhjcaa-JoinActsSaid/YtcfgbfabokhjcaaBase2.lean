/- Small laws on operations: min and max of two ints, as one number. Over any program. -/
import Derived.WalkKit
namespace Go.Proofs.Ytcfgbfabokhjcaa
open Go.RowKit
section
variable {P : Program} {w : World}
theorem wpList_min {ops : Array Oper} {rest : List Oper} {a : Act} {Q : Exit → Act → World → Prop} {dst : Option Tmp} {ty : TypeId} {pos : String} {after : Array Edge} {x y : Operand} {ats : Array TypeId}
    {p q : Int} (hx : a.eval x = .int .i64 p) (hy : a.eval y = .int .i64 q)
    (h : wpList P ops Q rest (a.put dst (.int .i64 (min p q))) w) : wpList P ops Q ({ dst := dst, op := .call { callee := .builtin .min, args := #[x, y], argTypes := ats }, type := ty, pos := pos, after := after, guard := none } :: rest) a w :=
  wpList_plain rfl fun _ hK => by
    unfold Oper.wp execOp
    have e : (if q < p then q else p) = min p q := by split <;> omega
    simp only [resolve, invoke, builtin, Sem.run_bind, Sem.run_pure, Result.andThen_ok, List.map_toArray, List.map_cons, List.map_nil, hx, hy, Builtin.min_, Builtin.min2, List.foldlM_cons, List.foldlM_nil, e]
    exact hK _ _ h
theorem wpList_max {ops : Array Oper} {rest : List Oper} {a : Act} {Q : Exit → Act → World → Prop} {dst : Option Tmp} {ty : TypeId} {pos : String} {after : Array Edge} {x y : Operand} {ats : Array TypeId}
    {p q : Int} (hx : a.eval x = .int .i64 p) (hy : a.eval y = .int .i64 q)
    (h : wpList P ops Q rest (a.put dst (.int .i64 (max p q))) w) : wpList P ops Q ({ dst := dst, op := .call { callee := .builtin .max, args := #[x, y], argTypes := ats }, type := ty, pos := pos, after := after, guard := none } :: rest) a w :=
  wpList_plain rfl fun _ hK => by
    unfold Oper.wp execOp
    have e : (if p < q then q else p) = max p q := by split <;> omega
    simp only [resolve, invoke, builtin, Sem.run_bind, Sem.run_pure, Result.andThen_ok, List.map_toArray, List.map_cons, List.map_nil, hx, hy, Builtin.max_, Builtin.max2, List.foldlM_cons, List.foldlM_nil, e]
    exact hK _ _ h
end
/-- the cells of a block that was just laid. -/
theorem cells_new (w : World) (c : Array Value) (t : TypeId) : ∀ (j : Nat) (u : Value), c.toList[j]? = some u → (w.alloc (.cells c t)).cell? ((⟨w.heap.size, 0, none⟩ : Addr).add j) = some u := by
  intro j u hu
  rw [Addr.add_lit, Nat.zero_add]
  have e : (w.alloc (.cells c t)).heap[w.heap.size]? = some (.cells c t) := by show (w.heap.push _)[w.heap.size]? = _; simp
  simp only [World.cell?, e]
  simpa using hu
end Go.Proofs.Ytcfgbfabokhjcaa

/- Chapter 20: small laws that deal's walk needs. -/
import Derived.Test.YtjcndeanojeffaaRow
import Derived.Test.YtjcndeanojeffaaRegion6
namespace Go.Proofs.Ytjcndeanojeffaa
open Go.RowKit
open Plain

/-- append, as one operation. -/
theorem wpO_append_sl {P : Program} (w : World) {o : Oper} {a : Act} {K : Act → World → Prop} {Q : Exit → Act → World → Prop} (s x : Operand) (t : TypeId)
    (ho : o.op = .call { callee := .builtin .append, args := #[s, x], argTypes := #[t, t] })
    (e : TypeId) (i : TypeInfo) (z : Value) (size bytes : Nat) (ht : P.underlying t = some (.slice e)) (hi : P.info? e = some i) (hz : i.zero = some z)
    (hsize : i.size = size) (hby : i.bytes = bytes) (hzs : z.cells.size = size)
    (ao : Option Addr) (n cap : Nat) (xs : List Value) (hs : a.eval s = .slice ao n cap) (hown : Sl w e size ao n cap xs)
    (ad : Addr) (m c : Nat) (news : List Value) (hx : a.eval x = .slice (some ad) m c) (hl : news.length = m * size) (hnews : ∀ j u, news[j]? = some u → w.cell? (ad.add j) = some u) (h1 : ∀ u ∈ news, u.oneCell' = true)
    (h63 : n + m ≤ maxLen) (hbytes : (n + m) * bytes ≤ 140737488355328)
    (h : ∀ ao' cap' w', Sl w' e size ao' (n + m) cap' (xs ++ news) → w.grownBy w' (blk ao) → (blk ao' = blk ao ∨ blk ao' = some w.heap.size) → K (a.put o.dst (.slice ao' (n + m) cap')) w') : o.wp P a w K Q := by
  obtain ⟨ao', cap', w', hr, h2, h3, h4⟩ := run_append_sl (P := P) w t o.type e i z size bytes ht hi hz hsize hby hzs ao n cap xs hown ad m c news hl hnews h1 h63 hbytes
  unfold Oper.wp execOp
  simp only [ho, resolve, invoke, builtin, Sem.run_bind, Sem.run_pure, Result.andThen_ok, List.map_toArray, List.map_cons, List.map_nil, hs, hx, hr]
  exact h ao' cap' w' h2 h3 h4

theorem PQ.sep3 {w : World} {m : Mem} {S : Q} (h : PQ w m S) : m.p ≠ m.bo ∧ m.p ≠ m.bl ∧ m.bo ≠ m.bl ∧ (∀ j, blk m.ap = some j → j ≠ m.p ∧ j ≠ m.bo ∧ j ≠ m.bl) ∧ (∀ x ∈ m.M, ∀ j ∈ x.foot, j ≠ m.p ∧ j ≠ m.bo ∧ j ≠ m.bl ∧ blk m.ap ≠ some j) := by
  have hs := h.sep
  unfold Mem.foot at hs
  rw [List.nodup_cons, List.nodup_cons, List.nodup_cons, List.nodup_append] at hs
  obtain ⟨s1, s2, s3, s4, s5, s6⟩ := hs
  simp only [List.mem_cons, List.mem_append, not_or] at s1 s2 s3
  refine ⟨s1.1, s1.2.1, s2.1, fun j hj => ?_, fun x hx j hj => ?_⟩
  · have hj' := blk_mem.2 hj
    exact ⟨fun e => s1.2.2.1 (e ▸ hj'), fun e => s2.2.1 (e ▸ hj'), fun e => s3.1 (e ▸ hj')⟩
  · have hj' : j ∈ m.M.flatMap LM.foot := List.mem_flatMap.2 ⟨x, hx, hj⟩
    exact ⟨fun e => s1.2.2.2 (e ▸ hj'), fun e => s2.2.2 (e ▸ hj'), fun e => s3.2 (e ▸ hj'), fun e => s6 j (blk_mem.2 e) j hj' rfl⟩
theorem PQ.setP {w : World} {m : Mem} {S S' : Q} (h : PQ w m S) {i : Nat} {v : Value}
    (hobj : (w.setCell ⟨m.p, i, none⟩ v).heap[m.p]? = some (.cells #[.int .i64 S'.size, .bool S'.short, .int .i64 S'.seq, .slice m.ap S'.packs.length m.cp, .int .i64 S'.cut, .map (some m.bo), .map (some m.bl)] 48 (0, 0)))
    (e1 : S'.packs = S.packs) (e2 : S'.opn = S.opn) (e3 : S'.lanes = S.lanes) : PQ (w.setCell ⟨m.p, i, none⟩ v) m S' ∧ Step w (w.setCell ⟨m.p, i, none⟩ v) m m := by
  have o : Only [m.p] w (w.setCell ⟨m.p, i, none⟩ v) := (Only.refl _ _).setCell (.inl (by simp)) _
  obtain ⟨a1, a2, a3, a4, a5⟩ := h.sep3
  refine ⟨⟨hobj, ?_, ?_, ?_, fun x hx => (h.at_ x hx).only o (fun j hj => by simpa using (a5 x hx j hj).1), by rw [e3]; exact h.same, h.sep⟩, rfl, o.mono (fun j hj => by rw [List.mem_singleton.1 hj]; exact m.p_in), fun j hj => .inl hj⟩
  · rw [e1]; exact h.packs.only o (fun j hj => by simpa using (a4 j hj).1)
  · rw [e2]; exact h.opn.same (o.block _ h.opn.lt (by simpa using Ne.symm a1))
  · exact h.lanes.same (o.block _ h.lanes.lt (by simpa using Ne.symm a2))
theorem PQ.setOpn {w w' : World} {m : Mem} {S : Q} (h : PQ w m S) {l : List (Int × Int)} (hm : HasMap Try.prog 3 (Value.int .i64) w' m.bo l) (ht : w.mapTurned w' m.bo) : PQ w' m { S with opn := l } ∧ Step w w' m m := by
  have o := only_turned ht
  obtain ⟨a1, a2, a3, a4, a5⟩ := h.sep3
  refine ⟨⟨o.at h.obj (by simpa using a1), h.packs.only o (fun j hj => by simpa using (a4 j hj).2.1), hm, h.lanes.same (o.block _ h.lanes.lt (by simpa using Ne.symm a3)), fun x hx => (h.at_ x hx).only o (fun j hj => by simpa using (a5 x hx j hj).2.1), h.same, h.sep⟩, rfl, o.mono (fun j hj => by rw [List.mem_singleton.1 hj]; exact m.bo_in), fun j hj => .inl hj⟩
/-- after one link turned: where the others are. -/
theorem Mem.upd_at {m : Mem} {k : Int} {x x' : LM} (hx : m.at_ k = some x) (hk : x'.k = k) (q : Int) : (m.upd k x').at_ q = if q = k then some x' else m.at_ q := by
  have hfind : ∀ M : List LM, (M.map fun y => if y.k = k then x' else y).find? (fun y => y.k == q) = if q = k then (M.find? (fun y => y.k == k)).map (fun _ => x') else M.find? (fun y => y.k == q) := by
    intro M
    induction M with
    | nil => simp
    | cons a M ih =>
      rw [List.map_cons, List.find?_cons, ih, List.find?_cons, List.find?_cons]
      by_cases c : a.k = k
      · rw [if_pos c]
        by_cases d : q = k
        · subst d
          have e1 : (x'.k == q) = true := by simp [hk]
          have e2 : (a.k == q) = true := by simp [c]
          rw [e1, e2, if_pos rfl, if_pos rfl]; rfl
        · have e1 : (x'.k == q) = false := by simp [hk]; exact fun e => d e.symm
          have e2 : (a.k == q) = false := by simp [c]; exact fun e => d e.symm
          rw [e1, e2, if_neg d, if_neg d]
      · rw [if_neg c]
        by_cases d : q = k
        · subst d
          have e2 : (a.k == q) = false := by simpa using c
          rw [e2, if_pos rfl]
        · rw [if_neg d, if_neg d]
  unfold Mem.at_ at hx ⊢
  show ((m.M.map _).find? _) = _
  rw [hfind]
  by_cases d : q = k
  · rw [if_pos d, if_pos d, hx]; rfl
  · rw [if_neg d, if_neg d]
end Go.Proofs.Ytjcndeanojeffaa

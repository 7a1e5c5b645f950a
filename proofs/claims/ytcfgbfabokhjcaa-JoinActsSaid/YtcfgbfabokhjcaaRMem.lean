/- Chapter 19: the document's own reassembly in the world. -/
import Derived.Test.YtcfgbfabokhjcaaRPlain
import Derived.Test.YtcfgbfabokhjcaaRMp
import Derived.Test.YtcfgbfabokhjcaaWires
namespace Go.Proofs.Ytcfgbfabokhjcaa
open Go.RowKit
open Plain

def pairCells (p : Int × Int) : List Value := [.int .i64 p.1, .int .i64 p.2]
def flatL (l : List (Int × Int)) : List Value := l.flatMap pairCells
theorem flatL_len (l : List (Int × Int)) : (flatL l).length = l.length * 2 := by
  unfold flatL
  induction l with
  | nil => rfl
  | cons x l ih => rw [List.flatMap_cons, List.length_append, ih]; simp [pairCells]; omega
theorem flatL_app (a b : List (Int × Int)) : flatL (a ++ b) = flatL a ++ flatL b := by simp [flatL]
theorem flatL_get (l : List (Int × Int)) (i : Nat) (h : i < l.length) : (flatL l)[i * 2]? = some (.int .i64 l[i].1) ∧ (flatL l)[i * 2 + 1]? = some (.int .i64 l[i].2) := by
  unfold flatL
  induction l generalizing i with
  | nil => simp at h
  | cons x l ih =>
    rw [List.flatMap_cons]
    cases i with
    | zero => simp [pairCells]
    | succ i =>
      have := ih i (by simpa using h)
      have e : (i + 1) * 2 = i * 2 + 1 + 1 := by omega
      simp [pairCells, e] at this ⊢
      exact this
theorem flatL_take (l : List (Int × Int)) : ∀ k, (flatL l).take (k * 2) = flatL (l.take k) := by
  induction l with
  | nil => intro k; simp [flatL]
  | cons x l ih =>
    intro k
    cases k with
    | zero => simp [flatL]
    | succ k =>
      have e : (k + 1) * 2 = k * 2 + 1 + 1 := by omega
      have := ih k
      simp [flatL, pairCells, e] at this ⊢
      exact this
theorem flatL_drop (l : List (Int × Int)) : ∀ k, (flatL l).drop (k * 2) = flatL (l.drop k) := by
  induction l with
  | nil => intro k; simp [flatL]
  | cons x l ih =>
    intro k
    cases k with
    | zero => simp [flatL]
    | succ k =>
      have e : (k + 1) * 2 = k * 2 + 1 + 1 := by omega
      have := ih k
      simp [flatL, pairCells, e] at this ⊢
      exact this
theorem flatF_take (l : List Fr) : ∀ k, (Cutp.flatF l).take (k * 4) = Cutp.flatF (l.take k) := by
  induction l with
  | nil => intro k; simp [Cutp.flatF]
  | cons x l ih =>
    intro k
    cases k with
    | zero => simp [Cutp.flatF]
    | succ k =>
      have e : (k + 1) * 4 = k * 4 + 1 + 1 + 1 + 1 := by omega
      have := ih k
      simp [Cutp.flatF, Cutp.frCells, e] at this ⊢
      exact this
theorem flatF_drop (l : List Fr) : ∀ k, (Cutp.flatF l).drop (k * 4) = Cutp.flatF (l.drop k) := by
  induction l with
  | nil => intro k; simp [Cutp.flatF]
  | cons x l ih =>
    intro k
    cases k with
    | zero => simp [Cutp.flatF]
    | succ k =>
      have e : (k + 1) * 4 = k * 4 + 1 + 1 + 1 + 1 := by omega
      have := ih k
      simp [Cutp.flatF, Cutp.frCells, e] at this ⊢
      exact this

/-- where it lies. -/
structure RM where
  r : Nat
  al : Option Addr
  cl : Nat
  ah : Option Addr
  ch : Nat
def RM.foot (m : RM) : List Nat := m.r :: ((blk m.al).toList ++ (blk m.ah).toList)
theorem RM.in_r (m : RM) : m.r ∈ m.foot := List.mem_cons_self
theorem RM.in_al {m : RM} {k : Nat} (h : blk m.al = some k) : k ∈ m.foot := List.mem_cons_of_mem _ (List.mem_append_left _ (by rw [h]; simp))
theorem RM.in_ah {m : RM} {k : Nat} (h : blk m.ah = some k) : k ∈ m.foot := List.mem_cons_of_mem _ (List.mem_append_right _ (by rw [h]; simp))
theorem RM.mem_foot {m : RM} {k : Nat} (h : k ∈ m.foot) : k = m.r ∨ blk m.al = some k ∨ blk m.ah = some k := by
  rcases List.mem_cons.1 h with h | h
  · exact .inl h
  · rcases List.mem_append.1 h with h | h
    · exact .inr (.inl (by simpa using h))
    · exact .inr (.inr (by simpa using h))

structure RJ (w : World) (m : RM) (S : J) : Prop where
  obj : w.heap[m.r]? = some (.cells #[.bool S.short, .int .i64 S.most, .slice m.al S.links.length m.cl, .slice m.ah S.held.length m.ch, .int .i64 S.next, .int .i64 S.lost] 48 (0, 0))
  links : Sl w 75 2 m.al S.links.length m.cl (flatL S.links)
  held : Sl w 33 4 m.ah S.held.length m.ch (Cutp.flatF S.held)
  na : blk m.al ≠ some m.r
  nh : blk m.ah ≠ some m.r
  ne : ∀ k, blk m.al = some k → blk m.ah ≠ some k
  ok : S.Ok
section
variable {w w' : World} {m m' : RM} {S : J}
theorem RJ.only {L : List Nat} (h : RJ w m S) (o : Only L w w') (hd : ∀ k ∈ m.foot, k ∉ L) : RJ w' m S :=
  ⟨o.at h.obj (hd _ m.in_r), h.links.only o (fun _ hk => hd _ (RM.in_al hk)), h.held.only o (fun _ hk => hd _ (RM.in_ah hk)), h.na, h.nh, h.ne, h.ok⟩
theorem RJ.quiet (h : RJ w m S) (o : Only [] w w') : RJ w' m S := h.only o (fun _ _ => by simp)
theorem RJ.drew (h : RJ w m S) : RJ w.drew m S := h.quiet (Only.drew (Only.refl [] w))
theorem RJ.alloc (h : RJ w m S) (o : Obj) : RJ (w.alloc o) m S := h.quiet (Only.alloc (Only.refl [] w) o)
theorem RJ.lt (h : RJ w m S) {k : Nat} (hk : k ∈ m.foot) : k < w.heap.size := by
  rcases RM.mem_foot hk with rfl | hk | hk
  · exact lt_of_block h.obj
  · exact h.links.lt hk
  · exact h.held.lt hk
theorem RJ.c0 (h : RJ w m S) : w.cell? ⟨m.r, 0, none⟩ = some (.bool S.short) := by have := cell_of h.obj 0; simpa using this
theorem RJ.c1 (h : RJ w m S) : w.cell? ⟨m.r, 1, none⟩ = some (.int .i64 S.most) := by have := cell_of h.obj 1; simpa using this
theorem RJ.c2 (h : RJ w m S) : w.cell? ⟨m.r, 2, none⟩ = some (.slice m.al S.links.length m.cl) := by have := cell_of h.obj 2; simpa using this
theorem RJ.c3 (h : RJ w m S) : w.cell? ⟨m.r, 3, none⟩ = some (.slice m.ah S.held.length m.ch) := by have := cell_of h.obj 3; simpa using this
theorem RJ.c4 (h : RJ w m S) : w.cell? ⟨m.r, 4, none⟩ = some (.int .i64 S.next) := by have := cell_of h.obj 4; simpa using this
theorem RJ.c5 (h : RJ w m S) : w.cell? ⟨m.r, 5, none⟩ = some (.int .i64 S.lost) := by have := cell_of h.obj 5; simpa using this
theorem RJ.fz (h : RJ w m S) (o : Nat) : w.frozen? ⟨m.r, o, none⟩ = false := frozen_of h.obj o

/-- what a call of it turns. -/
structure RStep (w w' : World) (m m' : RM) : Prop where
  r : m'.r = m.r
  only : Only m.foot w w'
  foot : ∀ k ∈ m'.foot, k ∈ m.foot ∨ w.heap.size ≤ k
theorem RStep.quiet (o : Only [] w w') : RStep w w' m m := ⟨rfl, o.mono (by simp), fun _ h => .inl h⟩
theorem RStep.refl (w : World) (m : RM) : RStep w w m m := RStep.quiet (Only.refl _ _)
theorem RStep.trans {a b c : World} {x y z : RM} (h : RStep a b x y) (k : RStep b c y z) : RStep a c x z := by
  refine ⟨k.r.trans h.r, h.only.trans' k.only h.foot, fun i hi => ?_⟩
  rcases k.foot i hi with e | e
  · exact h.foot i e
  · exact .inr (Nat.le_trans h.only.size e)

theorem RJ.foot_ne (h : RJ w m S) : (∀ k, blk m.al = some k → k ≠ m.r) ∧ (∀ k, blk m.ah = some k → k ≠ m.r) := ⟨fun k hk e => h.na (by rw [hk, e]), fun k hk e => h.nh (by rw [hk, e])⟩
theorem RJ.setNext (h : RJ w m S) (n : Int) (n0 : 0 ≤ n) (n1 : n < S.R) : RJ (w.setCell ⟨m.r, 4, none⟩ (.int .i64 n)) m { S with next := n } ∧ RStep w (w.setCell ⟨m.r, 4, none⟩ (.int .i64 n)) m m := by
  have o : Only [m.r] w (w.setCell ⟨m.r, 4, none⟩ (.int .i64 n)) := (Only.refl _ _).setCell (.inl (by simp)) _
  refine ⟨⟨?_, h.links.only o (fun k hk => by simpa using h.foot_ne.1 k hk), h.held.only o (fun k hk => by simpa using h.foot_ne.2 k hk), h.na, h.nh, h.ne, sub_ok h.ok S.held (List.Sublist.refl _) n n0 n1⟩, rfl, o.mono (fun k hk => by rw [List.mem_singleton.1 hk]; exact m.in_r), fun _ hk => .inl hk⟩
  have := heap_setCell_same (o := 4) h.obj (.int .i64 n)
  rw [this]
  rfl
theorem RJ.setLost (h : RJ w m S) (n : Int) (hok : J.Ok { S with lost := n }) : RJ (w.setCell ⟨m.r, 5, none⟩ (.int .i64 n)) m { S with lost := n } ∧ RStep w (w.setCell ⟨m.r, 5, none⟩ (.int .i64 n)) m m := by
  have o : Only [m.r] w (w.setCell ⟨m.r, 5, none⟩ (.int .i64 n)) := (Only.refl _ _).setCell (.inl (by simp)) _
  refine ⟨⟨?_, h.links.only o (fun k hk => by simpa using h.foot_ne.1 k hk), h.held.only o (fun k hk => by simpa using h.foot_ne.2 k hk), h.na, h.nh, h.ne, hok⟩, rfl, o.mono (fun k hk => by rw [List.mem_singleton.1 hk]; exact m.in_r), fun _ hk => .inl hk⟩
  have := heap_setCell_same (o := 5) h.obj (.int .i64 n)
  rw [this]
  rfl
/-- another row of what is held: it grew in its own block, or lies in a new one. -/
theorem RJ.setHeld {L : List Nat} {H : List Fr} {ah : Option Addr} {n ch : Nat} (h : RJ w m S) (o : Only L w w') (hL : ∀ k ∈ L, blk m.ah = some k) (hs : Sl w' 33 4 ah n ch (Cutp.flatF H)) (hn : n = H.length) (hb : ∀ k, blk ah = some k → blk m.ah = some k ∨ w.heap.size ≤ k) (hok : J.Ok { S with held := H }) :
    RJ (w'.setCell ⟨m.r, 3, none⟩ (.slice ah n ch)) { m with ah := ah, ch := ch } { S with held := H } ∧ RStep w (w'.setCell ⟨m.r, 3, none⟩ (.slice ah n ch)) m { m with ah := ah, ch := ch } := by
  subst hn
  have hr := lt_of_block h.obj
  have hrL : m.r ∉ L := fun hm => h.nh (hL _ hm)
  have hobj := o.at h.obj hrL
  have hah : ∀ k, blk ah = some k → k ≠ m.r := fun k hk e => by
    rcases hb k hk with c | c
    · exact h.nh (by rw [c, e])
    · omega
  have o2 : Only [m.r] w' (w'.setCell ⟨m.r, 3, none⟩ (.slice ah H.length ch)) := (Only.refl _ _).setCell (.inl (by simp)) _
  refine ⟨⟨?_, (h.links.only o (fun k hk hm => h.ne k hk (hL k hm))).only o2 (fun k hk => by simpa using h.foot_ne.1 k hk), hs.only o2 (fun k hk => by simpa using hah k hk), h.na, fun e => hah _ e rfl, fun k hk hk2 => ?_, hok⟩, rfl, ?_, fun k hk => ?_⟩
  · have := heap_setCell_same (o := 3) hobj (.slice ah H.length ch)
    show (w'.setCell ⟨m.r, 3, none⟩ (.slice ah H.length ch)).heap[m.r]? = _
    rw [this]
    rfl
  · rcases hb k hk2 with c | c
    · exact h.ne k hk c
    · have := h.links.lt hk; omega
  · exact (o.mono (fun k hk => RM.in_ah (hL k hk))).trans (o2.mono (fun k hk => by rw [List.mem_singleton.1 hk]; exact m.in_r))
  · rcases RM.mem_foot hk with e | e | e
    · exact .inl (by rw [e]; exact m.in_r)
    · exact .inl (RM.in_al e)
    · rcases hb k e with c | c
      · exact .inl (RM.in_ah c)
      · exact .inr c
theorem RJ.setLinks {L : List Nat} {H : List (Int × Int)} {al : Option Addr} {n cl : Nat} (h : RJ w m S) (o : Only L w w') (hL : ∀ k ∈ L, blk m.al = some k) (hs : Sl w' 75 2 al n cl (flatL H)) (hn : n = H.length) (hb : ∀ k, blk al = some k → blk m.al = some k ∨ w.heap.size ≤ k) (hok : J.Ok { S with links := H }) :
    RJ (w'.setCell ⟨m.r, 2, none⟩ (.slice al n cl)) { m with al := al, cl := cl } { S with links := H } ∧ RStep w (w'.setCell ⟨m.r, 2, none⟩ (.slice al n cl)) m { m with al := al, cl := cl } := by
  subst hn
  have hr := lt_of_block h.obj
  have hrL : m.r ∉ L := fun hm => h.na (hL _ hm)
  have hobj := o.at h.obj hrL
  have hal : ∀ k, blk al = some k → k ≠ m.r := fun k hk e => by
    rcases hb k hk with c | c
    · exact h.na (by rw [c, e])
    · omega
  have o2 : Only [m.r] w' (w'.setCell ⟨m.r, 2, none⟩ (.slice al H.length cl)) := (Only.refl _ _).setCell (.inl (by simp)) _
  refine ⟨⟨?_, hs.only o2 (fun k hk => by simpa using hal k hk), (h.held.only o (fun k hk hm => h.ne k (hL k hm) hk)).only o2 (fun k hk => by simpa using h.foot_ne.2 k hk), fun e => hal _ e rfl, h.nh, fun k hk hk2 => ?_, hok⟩, rfl, ?_, fun k hk => ?_⟩
  · have := heap_setCell_same (o := 2) hobj (.slice al H.length cl)
    show (w'.setCell ⟨m.r, 2, none⟩ (.slice al H.length cl)).heap[m.r]? = _
    rw [this]
    rfl
  · rcases hb k hk with c | c
    · exact h.ne k c hk2
    · have := h.held.lt hk2; omega
  · exact (o.mono (fun k hk => RM.in_al (hL k hk))).trans (o2.mono (fun k hk => by rw [List.mem_singleton.1 hk]; exact m.in_r))
  · rcases RM.mem_foot hk with e | e | e
    · exact .inl (by rw [e]; exact m.in_r)
    · rcases hb k e with c | c
      · exact .inl (RM.in_al c)
      · exact .inr c
    · exact .inl (RM.in_ah e)
end
end Go.Proofs.Ytcfgbfabokhjcaa

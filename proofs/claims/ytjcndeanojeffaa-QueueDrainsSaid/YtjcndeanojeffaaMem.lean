/- Chapter 20: a queue in memory. -/
import Derived.Test.YtjcndeanojeffaaPlain2
import Derived.Test.YtjcndeanojeffaaCut
import Derived.Test.YtjcndeanojeffaaBase4
import Derived.Test.YtjcndeanojeffaaRegion5
import Derived.Test.YtjcndeanojeffaaMask
import Derived.Deep.DeepCutAuto
import Derived.StillTactics
namespace Go.Proofs.Ytjcndeanojeffaa
open Go.RowKit
open Plain

/-- a link in memory. -/
structure LM where
  k : Int
  g : Nat
  ao : Option Addr
  cap : Nat
  L : Lane
def wCells (x : Fr × Int) : List Value := [.bool x.1.b, .bool x.1.e, .int .i64 x.1.q, .string x.1.d, .int .i64 x.2]
def flatW (l : List (Fr × Int)) : List Value := l.flatMap wCells
theorem flatW_length (l : List (Fr × Int)) : (flatW l).length = l.length * 5 := by
  unfold flatW
  induction l with
  | nil => rfl
  | cons x l ih => rw [List.flatMap_cons, List.length_append, ih]; simp [wCells]; omega
theorem flatW_snoc (l : List (Fr × Int)) (x : Fr × Int) : flatW (l ++ [x]) = flatW l ++ wCells x := by unfold flatW; simp
theorem flatW_cons (x : Fr × Int) (l : List (Fr × Int)) : flatW (x :: l) = wCells x ++ flatW l := by unfold flatW; simp
structure LM.At (m : LM) (w : World) : Prop where
  obj : w.heap[m.g]? = some (.cells #[.slice m.ao m.L.waits.length m.cap, .bool m.L.drains] 52 (0, 0))
  row : Sl w 54 5 m.ao m.L.waits.length m.cap (flatW m.L.waits)
def LM.foot (m : LM) : List Nat := m.g :: (blk m.ao).toList
theorem LM.At.only {T : List Nat} {m : LM} {w w' : World} (h : m.At w) (o : Only T w w') (hT : ∀ k ∈ m.foot, k ∉ T) : m.At w' :=
  ⟨o.at h.obj (hT _ List.mem_cons_self), h.row.only o (fun k hk => hT k (List.mem_cons_of_mem _ (by rw [hk]; simp)))⟩
theorem LM.At.lt {m : LM} {w : World} (h : m.At w) : ∀ k ∈ m.foot, k < w.heap.size := by
  intro k hk
  rcases List.mem_cons.1 hk with rfl | hk
  · exact lt_of_block h.obj
  · have : blk m.ao = some k := by cases hb : blk m.ao with | none => rw [hb] at hk; simp at hk | some x => rw [hb] at hk; simp at hk; rw [hk]
    exact h.row.lt this

structure Mem where
  p : Nat
  bo : Nat
  bl : Nat
  ap : Option Addr
  cp : Nat
  M : List LM
def Mem.foot (m : Mem) : List Nat := m.p :: m.bo :: m.bl :: ((blk m.ap).toList ++ m.M.flatMap LM.foot)
def ptrV : Option Nat → Value
  | none => .pointer none
  | some g => .pointer (some ⟨g, 0, none⟩)
theorem keyed : Maps.Keyed Try.prog 3 := Maps.int_keyed Try.underlying3
theorem zero3 (w : World) : (zeroValue 3).run Try.prog w = .ok (Value.int .i64 0) w := by kernel_rfl
theorem zero49 (w : World) : (zeroValue 49).run Try.prog w = .ok (ptrV none) w := by kernel_rfl
theorem wf_int {q : Int} (h0 : -9223372036854775808 ≤ q) (h1 : q ≤ 9223372036854775807) : (Lit.int .i64 q).wf = true := WalkArith.wf_i64 (by omega)
def Mem.ptrs (m : Mem) : List (Int × Option Nat) := m.M.map fun x => (x.k, some x.g)

structure PQ (w : World) (m : Mem) (S : Q) : Prop where
  obj : w.heap[m.p]? = some (.cells #[.int .i64 S.size, .bool S.short, .int .i64 S.seq, .slice m.ap S.packs.length m.cp, .int .i64 S.cut, .map (some m.bo), .map (some m.bl)] 48 (0, 0))
  packs : Sl w 9 1 m.ap S.packs.length m.cp (S.packs.map Value.string)
  opn : HasMap Try.prog 3 (Value.int .i64) w m.bo S.opn
  lanes : HasMap Try.prog 3 ptrV w m.bl m.ptrs
  at_ : ∀ x ∈ m.M, x.At w
  same : S.lanes = m.M.map fun x => (x.k, x.L)
  sep : m.foot.Nodup

theorem blk_mem {ao : Option Addr} {k : Nat} : k ∈ (blk ao).toList ↔ blk ao = some k := by
  cases blk ao with
  | none => simp
  | some x => simp; exact eq_comm
theorem Mem.p_in (m : Mem) : m.p ∈ m.foot := List.mem_cons_self
theorem Mem.bo_in (m : Mem) : m.bo ∈ m.foot := List.mem_cons_of_mem _ List.mem_cons_self
theorem Mem.bl_in (m : Mem) : m.bl ∈ m.foot := List.mem_cons_of_mem _ (List.mem_cons_of_mem _ List.mem_cons_self)
theorem Mem.ap_in (m : Mem) {k : Nat} (h : blk m.ap = some k) : k ∈ m.foot := List.mem_cons_of_mem _ (List.mem_cons_of_mem _ (List.mem_cons_of_mem _ (List.mem_append_left _ (blk_mem.2 h))))
theorem Mem.lm_in (m : Mem) {x : LM} (hx : x ∈ m.M) {k : Nat} (h : k ∈ x.foot) : k ∈ m.foot := List.mem_cons_of_mem _ (List.mem_cons_of_mem _ (List.mem_cons_of_mem _ (List.mem_append_right _ (List.mem_flatMap.2 ⟨x, hx, h⟩))))
theorem PQ.lt {w : World} {m : Mem} {S : Q} (h : PQ w m S) : ∀ k ∈ m.foot, k < w.heap.size := by
  intro k hk
  unfold Mem.foot at hk
  rcases List.mem_cons.1 hk with rfl | hk
  · exact lt_of_block h.obj
  rcases List.mem_cons.1 hk with rfl | hk
  · exact h.opn.lt
  rcases List.mem_cons.1 hk with rfl | hk
  · exact h.lanes.lt
  rcases List.mem_append.1 hk with hk | hk
  · exact h.packs.lt (blk_mem.1 hk)
  · obtain ⟨x, hx, hk⟩ := List.mem_flatMap.1 hk
    exact (h.at_ x hx).lt k hk
theorem PQ.only {T : List Nat} {w w' : World} {m : Mem} {S : Q} (h : PQ w m S) (o : Only T w w') (hT : ∀ k ∈ m.foot, k ∉ T) : PQ w' m S :=
  ⟨o.at h.obj (hT _ m.p_in), h.packs.only o (fun k hk => hT k (m.ap_in hk)), h.opn.same (o.block _ h.opn.lt (hT _ m.bo_in)), h.lanes.same (o.block _ h.lanes.lt (hT _ m.bl_in)), fun x hx => (h.at_ x hx).only o (fun k hk => hT k (m.lm_in hx hk)), h.same, h.sep⟩
theorem PQ.drew {w : World} {m : Mem} {S : Q} (h : PQ w m S) : PQ w.drew m S := h.only (Only.drew (Only.refl [] w)) (by simp)
theorem PQ.quiet {w w' : World} {m : Mem} {S : Q} (h : PQ w m S) (o : Only [] w w') : PQ w' m S := h.only o (by simp)

/-- from one memory to the next. -/
structure Step (w w' : World) (m m' : Mem) : Prop where
  p : m'.p = m.p
  only : Only m.foot w w'
  foot : ∀ k ∈ m'.foot, k ∈ m.foot ∨ w.heap.size ≤ k
theorem Step.refl (w : World) (m : Mem) : Step w w m m := ⟨rfl, Only.refl _ _, fun _ hk => .inl hk⟩
theorem Step.trans {a b c : World} {m n o : Mem} (h : Step a b m n) (k : Step b c n o) : Step a c m o :=
  ⟨k.p.trans h.p, h.only.trans' k.only h.foot, fun x hx => (k.foot x hx).elim (fun hx => h.foot x hx) (fun hx => .inr (Nat.le_trans h.only.size hx))⟩
theorem Step.quiet {w w' : World} {m : Mem} (o : Only [] w w') : Step w w' m m := ⟨rfl, o.mono (by simp), fun _ hk => .inl hk⟩
theorem Step.below {w w' : World} {m m' : Mem} (h : Step w w' m m') {B : Nat} (hB : B ≤ w.heap.size) (hf : ∀ k ∈ m.foot, B ≤ k) : Below B w w' ∧ ∀ k ∈ m'.foot, B ≤ k :=
  ⟨h.only.below B hB hf, fun k hk => (h.foot k hk).elim (hf k) (fun h2 => Nat.le_trans hB h2)⟩

/-! which link is where -/
theorem look_map {β : Type} (M : List LM) (f : LM → β) (k : Int) : look (M.map fun x => (x.k, f x)) k = (M.find? fun x => x.k == k).map f := by
  induction M with
  | nil => rfl
  | cons a M ih =>
    rw [List.map_cons, look_cons, ih, List.find?_cons]
    by_cases e : a.k = k
    · simp [e]
    · have : (a.k == k) = false := by simp [e]
      simp [e, this]
def Mem.at_ (m : Mem) (k : Int) : Option LM := m.M.find? fun x => x.k == k
theorem PQ.lane {w : World} {m : Mem} {S : Q} (h : PQ w m S) (k : Int) : S.lane k = (m.at_ k).map LM.L := by
  unfold Q.lane
  rw [h.same, look_map]
  rfl
theorem Mem.ptr (m : Mem) (k : Int) : look m.ptrs k = (m.at_ k).map fun x => some x.g := look_map m.M _ k
theorem Mem.at_in {m : Mem} {k : Int} {x : LM} (h : m.at_ k = some x) : x ∈ m.M ∧ x.k = k := ⟨List.mem_of_find?_eq_some h, by simpa using List.find?_some h⟩
theorem PQ.laneAt {w : World} {m : Mem} {S : Q} (h : PQ w m S) (k : Int) (h0 : -9223372036854775808 ≤ k) (h1 : k ≤ 9223372036854775807) :
    (Instr.lookup 46 (.map (some m.bl)) (.int .i64 k) false).run Try.prog w = .ok (ptrV ((m.at_ k).map LM.g)) w := by
  have := h.lanes.get keyed Try.underlying3 Try.underlying46 (zero49 w) (wf_int h0 h1)
  rw [this, m.ptr]
  cases m.at_ k <;> rfl
theorem PQ.laneNone {w : World} {m : Mem} {S : Q} (h : PQ w m S) (k : Int) (h0 : -9223372036854775808 ≤ k) (h1 : k ≤ 9223372036854775807) (hn : m.at_ k = none) :
    (Instr.lookup 46 (.map (some m.bl)) (.int .i64 k) false).run Try.prog w = .ok (.pointer none) w := by
  rw [h.laneAt k h0 h1, hn]; rfl
theorem PQ.laneSome {w : World} {m : Mem} {S : Q} (h : PQ w m S) (k : Int) (h0 : -9223372036854775808 ≤ k) (h1 : k ≤ 9223372036854775807) {x : LM} (hn : m.at_ k = some x) :
    (Instr.lookup 46 (.map (some m.bl)) (.int .i64 k) false).run Try.prog w = .ok (.pointer (some ⟨x.g, 0, none⟩)) w := by
  rw [h.laneAt k h0 h1, hn]; rfl
theorem PQ.lanesLen {w : World} {m : Mem} {S : Q} (h : PQ w m S) (ty : TypeId) : (Builtin.len_ #[46] ty #[.map (some m.bl)]).run Try.prog w = .ok (.int .i64 S.lanes.length) w := by
  have := h.lanes.len Try.underlying46 ty
  rw [this]
  congr 3
  rw [h.same]
  simp [Mem.ptrs]
theorem PQ.opnLen {w : World} {m : Mem} {S : Q} (h : PQ w m S) (ty : TypeId) : (Builtin.len_ #[45] ty #[.map (some m.bo)]).run Try.prog w = .ok (.int .i64 S.opn.length) w := h.opn.len Try.underlying45 ty
theorem PQ.c0 {w : World} {m : Mem} {S : Q} (h : PQ w m S) : w.cell? ⟨m.p, 0, none⟩ = some (.int .i64 S.size) := by have := cell_of h.obj 0; simpa using this
theorem PQ.c1 {w : World} {m : Mem} {S : Q} (h : PQ w m S) : w.cell? ⟨m.p, 1, none⟩ = some (.bool S.short) := by have := cell_of h.obj 1; simpa using this
theorem PQ.c2 {w : World} {m : Mem} {S : Q} (h : PQ w m S) : w.cell? ⟨m.p, 2, none⟩ = some (.int .i64 S.seq) := by have := cell_of h.obj 2; simpa using this
theorem PQ.c3 {w : World} {m : Mem} {S : Q} (h : PQ w m S) : w.cell? ⟨m.p, 3, none⟩ = some (.slice m.ap S.packs.length m.cp) := by have := cell_of h.obj 3; simpa using this
theorem PQ.c4 {w : World} {m : Mem} {S : Q} (h : PQ w m S) : w.cell? ⟨m.p, 4, none⟩ = some (.int .i64 S.cut) := by have := cell_of h.obj 4; simpa using this
theorem PQ.c5 {w : World} {m : Mem} {S : Q} (h : PQ w m S) : w.cell? ⟨m.p, 5, none⟩ = some (.map (some m.bo)) := by have := cell_of h.obj 5; simpa using this
theorem PQ.c6 {w : World} {m : Mem} {S : Q} (h : PQ w m S) : w.cell? ⟨m.p, 6, none⟩ = some (.map (some m.bl)) := by have := cell_of h.obj 6; simpa using this
theorem PQ.fz {w : World} {m : Mem} {S : Q} (h : PQ w m S) (o : Nat) : w.frozen? ⟨m.p, o, none⟩ = false := frozen_of h.obj o
theorem LM.At.c0 {m : LM} {w : World} (h : m.At w) : w.cell? ⟨m.g, 0, none⟩ = some (.slice m.ao m.L.waits.length m.cap) := by have := cell_of h.obj 0; simpa using this
theorem LM.At.c1 {m : LM} {w : World} (h : m.At w) : w.cell? ⟨m.g, 1, none⟩ = some (.bool m.L.drains) := by have := cell_of h.obj 1; simpa using this
theorem only_turned {w w' : World} {b : Nat} (h : w.mapTurned w' b) : Only [b] w w' := Only.of_grown h.grown fun k hk => by cases hk; simp

/-! one link turned -/
def Mem.upd (m : Mem) (k : Int) (x' : LM) : Mem := { m with M := m.M.map fun y => if y.k = k then x' else y }
theorem PQ.keys {w : World} {m : Mem} {S : Q} (h : PQ w m S) : (m.M.map LM.k).Nodup := by
  have := h.lanes.nodup
  unfold Mem.ptrs at this
  rw [List.map_map] at this
  exact this
theorem PQ.split {w : World} {m : Mem} {S : Q} (h : PQ w m S) {k : Int} {x : LM} (hx : m.at_ k = some x) : ∃ A Z, m.M = A ++ x :: Z ∧ (∀ y ∈ A, y.k ≠ k) ∧ (∀ y ∈ Z, y.k ≠ k) := by
  unfold Mem.at_ at hx
  obtain ⟨hk, A, Z, e, hA⟩ := List.find?_eq_some_iff_append.1 hx
  refine ⟨A, Z, e, fun y hy => by have := hA y hy; simpa using this, fun y hy e' => ?_⟩
  have hn := h.keys
  rw [e, List.map_append, List.map_cons, List.nodup_append, List.nodup_cons] at hn
  have hxk : x.k = k := by simpa using hk
  exact hn.2.1.1 (List.mem_map.2 ⟨y, hy, by rw [e', hxk]⟩)
theorem upd_split {M A Z : List LM} {x x' : LM} {k : Int} (e : M = A ++ x :: Z) (hx : x.k = k) (hA : ∀ y ∈ A, y.k ≠ k) (hZ : ∀ y ∈ Z, y.k ≠ k) : (M.map fun y => if y.k = k then x' else y) = A ++ x' :: Z := by
  have hid : ∀ l : List LM, (∀ y ∈ l, y.k ≠ k) → (l.map fun y => if y.k = k then x' else y) = l := by
    intro l hl
    calc l.map _ = l.map id := List.map_congr_left (fun y hy => by rw [if_neg (hl y hy)]; rfl)
      _ = l := List.map_id _
  rw [e, List.map_append, List.map_cons, hid A hA, hid Z hZ, if_pos hx]
theorem swap_nodup {A X X' Z : List Nat} {N : Nat} (h : (A ++ (X ++ Z)).Nodup) (hX : X'.Nodup) (hs : ∀ k ∈ X', k ∈ X ∨ N ≤ k) (hA : ∀ k ∈ A, k < N) (hZ : ∀ k ∈ Z, k < N) : (A ++ (X' ++ Z)).Nodup := by
  rw [List.nodup_append, List.nodup_append] at h ⊢
  obtain ⟨h1, ⟨h2, h3, h4⟩, h5⟩ := h
  refine ⟨h1, ⟨hX, h3, fun a ha b hb => ?_⟩, fun a ha b hb => ?_⟩
  · rcases hs a ha with e | e
    · exact h4 a e b hb
    · have := hZ b hb; omega
  · rcases List.mem_append.1 hb with hb | hb
    · rcases hs b hb with e | e
      · exact h5 a ha b (List.mem_append_left _ e)
      · have := hA a ha; omega
    · exact h5 a ha b (List.mem_append_right _ hb)
theorem updL_const {l : List (Int × Lane)} (hn : (l.map (·.1)).Nodup) {k : Int} {L : Lane} (h : look l k = some L) (g : Lane → Lane) : updL l k g = updL l k fun _ => g L := by
  unfold updL
  refine List.map_congr_left (fun p hp => ?_)
  by_cases e : p.1 = k
  · rw [if_pos e, if_pos e]
    have h1 := look_of_mem hn hp
    rw [e, h] at h1
    rw [← Option.some.inj h1]
  · rw [if_neg e, if_neg e]
theorem PQ.lnodup {w : World} {m : Mem} {S : Q} (h : PQ w m S) : (S.lanes.map (·.1)).Nodup := by
  have := h.keys
  rw [h.same, List.map_map]
  exact this
def Mem.base (m : Mem) : List Nat := m.p :: m.bo :: m.bl :: (blk m.ap).toList
theorem Mem.foot_eq (m : Mem) : m.foot = m.base ++ m.M.flatMap LM.foot := by
  unfold Mem.foot Mem.base
  simp
theorem PQ.updLane {w w' : World} {m : Mem} {S : Q} (h : PQ w m S) {k : Int} {x x' : LM} (hx : m.at_ k = some x) (hk : x'.k = k) (hg : x'.g = x.g) (hat : x'.At w') (o : Only x.foot w w') (hb : ∀ j, blk x'.ao = some j → blk x.ao = some j ∨ w.heap.size ≤ j)
    {g : Lane → Lane} (hL : x'.L = g x.L) : PQ w' (m.upd k x') { S with lanes := updL S.lanes k g } ∧ Step w w' m (m.upd k x') := by
  obtain ⟨hin, hxk⟩ := Mem.at_in hx
  obtain ⟨A, Z, e, hA, hZ⟩ := h.split hx
  have hM : (m.upd k x').M = A ++ x' :: Z := upd_split e hxk hA hZ
  have hsep := h.sep
  have hlt := h.lt
  rw [m.foot_eq, e, List.flatMap_append, List.flatMap_cons] at hsep hlt
  have hsep2 : ((m.base ++ A.flatMap LM.foot) ++ (x.foot ++ Z.flatMap LM.foot)).Nodup := by rw [List.append_assoc]; exact hsep
  have hdis : ∀ j ∈ m.base ++ A.flatMap LM.foot, j ∉ x.foot := by
    intro j hj hjx
    exact (List.nodup_append.1 hsep2).2.2 j hj j (List.mem_append_left _ hjx) rfl
  have hdisZ : ∀ j ∈ Z.flatMap LM.foot, j ∉ x.foot := by
    intro j hj hjx
    have := (List.nodup_append.1 (List.nodup_append.1 hsep2).2.1).2.2 j hjx j hj
    exact this rfl
  have hxn : x.foot.Nodup := (List.nodup_append.1 (List.nodup_append.1 hsep2).2.1).1
  have hx'f : ∀ j ∈ x'.foot, j ∈ x.foot ∨ w.heap.size ≤ j := by
    intro j hj
    rcases List.mem_cons.1 hj with rfl | hj
    · left; rw [hg]; exact List.mem_cons_self
    · rcases hb j (blk_mem.1 hj) with e1 | e1
      · left; exact List.mem_cons_of_mem _ (blk_mem.2 e1)
      · exact .inr e1
  have hx'n : x'.foot.Nodup := by
    unfold LM.foot
    rw [List.nodup_cons]
    refine ⟨fun hm => ?_, by cases blk x'.ao <;> simp⟩
    rcases hb _ (blk_mem.1 hm) with e1 | e1
    · unfold LM.foot at hxn
      rw [List.nodup_cons] at hxn
      exact hxn.1 (by rw [← hg]; exact blk_mem.2 e1)
    · have := (h.at_ x hin).lt x.g List.mem_cons_self
      omega
  have hbase : ∀ j ∈ m.base, j ∉ x.foot := fun j hj => hdis j (List.mem_append_left _ hj)
  have hfoot' : (m.upd k x').foot = (m.base ++ A.flatMap LM.foot) ++ (x'.foot ++ Z.flatMap LM.foot) := by
    rw [Mem.foot_eq, hM, List.flatMap_append, List.flatMap_cons, List.append_assoc]
    rfl
  refine ⟨⟨o.at h.obj (hbase _ List.mem_cons_self), h.packs.only o (fun j hj => hbase j (List.mem_cons_of_mem _ (List.mem_cons_of_mem _ (List.mem_cons_of_mem _ (blk_mem.2 hj))))), h.opn.same (o.block _ h.opn.lt (hbase _ (List.mem_cons_of_mem _ List.mem_cons_self))), ?_, ?_, ?_, ?_⟩, rfl, o.mono (fun j hj => m.lm_in hin hj), ?_⟩
  · have e1 : (m.upd k x').ptrs = m.ptrs := by
      unfold Mem.ptrs
      rw [hM, e]
      simp [hk, hxk, hg]
    rw [e1]
    exact h.lanes.same (o.block _ h.lanes.lt (hbase _ (List.mem_cons_of_mem _ (List.mem_cons_of_mem _ List.mem_cons_self))))
  · intro y hy
    rw [hM] at hy
    rcases List.mem_append.1 hy with hy | hy
    · exact (h.at_ y (by rw [e]; exact List.mem_append_left _ hy)).only o (fun j hj => hdis j (List.mem_append_right _ (List.mem_flatMap.2 ⟨y, hy, hj⟩)))
    · rcases List.mem_cons.1 hy with rfl | hy
      · exact hat
      · exact (h.at_ y (by rw [e]; exact List.mem_append_right _ (List.mem_cons_of_mem _ hy))).only o (fun j hj => hdisZ j (List.mem_flatMap.2 ⟨y, hy, hj⟩))
  · show updL S.lanes k g = _
    have hl : look S.lanes k = some x.L := by have := h.lane k; rw [hx] at this; exact this
    rw [updL_const h.lnodup hl, ← hL, hM, h.same, e]
    have hid : ∀ l : List LM, (∀ y ∈ l, y.k ≠ k) → updL (l.map fun y => (y.k, y.L)) k (fun _ => x'.L) = l.map fun y => (y.k, y.L) := by
      intro l hl
      unfold updL
      rw [List.map_map]
      refine List.map_congr_left (fun y hy => ?_)
      show (if y.k = k then _ else _) = _
      rw [if_neg (hl y hy)]
    have happ : ∀ a b : List (Int × Lane), updL (a ++ b) k (fun _ => x'.L) = updL a k (fun _ => x'.L) ++ updL b k (fun _ => x'.L) := fun a b => by unfold updL; rw [List.map_append]
    rw [List.map_append, List.map_cons, List.map_append, List.map_cons, happ, hid A hA]
    congr 1
    show (if x.k = k then (x.k, x'.L) else (x.k, x.L)) :: updL (Z.map fun y => (y.k, y.L)) k (fun _ => x'.L) = _
    rw [hid Z hZ, if_pos hxk, hk, hxk]
  · rw [hfoot']
    refine swap_nodup hsep2 hx'n hx'f (fun j hj => ?_) (fun j hj => ?_)
    · refine hlt j ?_
      rcases List.mem_append.1 hj with hj | hj
      · exact List.mem_append_left _ hj
      · exact List.mem_append_right _ (List.mem_append_left _ hj)
    · exact hlt j (List.mem_append_right _ (List.mem_append_right _ (List.mem_append_right _ hj)))
  · intro j hj
    rw [hfoot'] at hj
    rw [m.foot_eq, e, List.flatMap_append, List.flatMap_cons]
    rcases List.mem_append.1 hj with hj | hj
    · left
      rcases List.mem_append.1 hj with hj | hj
      · exact List.mem_append_left _ hj
      · exact List.mem_append_right _ (List.mem_append_left _ hj)
    · rcases List.mem_append.1 hj with hj | hj
      · rcases hx'f j hj with e1 | e1
        · left; exact List.mem_append_right _ (List.mem_append_right _ (List.mem_append_left _ e1))
        · exact .inr e1
      · left; exact List.mem_append_right _ (List.mem_append_right _ (List.mem_append_right _ hj))
end Go.Proofs.Ytjcndeanojeffaa

/- Chapter 20: a queue that a law made itself, and blocks of the law's own beside it. -/
import Derived.Test.YtjcndeanojeffaaTake
namespace Go.Proofs.Ytjcndeanojeffaa
open Go.RowKit
open Plain

/-- since w0 only fresh memory turned; the queue lies in it, apart from the blocks K. -/
structure QW (w0 : World) (m : Mem) (K : List (Nat × Obj)) (S : Q) (w : World) : Prop where
  pq : PQ w m S
  ok : S.Ok
  only : Only [] w0 w
  fresh : ∀ k ∈ m.foot, w0.heap.size ≤ k
  kept : ∀ b ∈ K, w.heap[b.1]? = some b.2 ∧ b.1 ∉ m.foot
def QP (w0 : World) (p : Nat) (K : List (Nat × Obj)) (S : Q) (w : World) : Prop := ∃ m, m.p = p ∧ QW w0 m K S w

theorem QP.step {w0 : World} {m : Mem} {K : List (Nat × Obj)} {S S' : Q} {w w' : World} (h : QW w0 m K S w) (hok : S'.Ok) {m' : Mem} (q : PQ w' m' S') (s : Step w w' m m') : QP w0 m.p K S' w' := by
  refine ⟨m', s.p, q, hok, h.only.trans' s.only (fun x hx => .inr (h.fresh x hx)), fun k hk => ?_, fun b hb => ?_⟩
  · rcases s.foot k hk with e | e
    · exact h.fresh k e
    · exact Nat.le_trans h.only.size e
  · obtain ⟨h1, h2⟩ := h.kept b hb
    refine ⟨s.only.at h1 h2, fun hk => ?_⟩
    rcases s.foot _ hk with e | e
    · exact h2 e
    · have := lt_of_block h1; omega
theorem QP.quiet {w0 : World} {p : Nat} {K : List (Nat × Obj)} {S : Q} {w w' : World} (h : QP w0 p K S w) (o : Only [] w w') : QP w0 p K S w' := by
  obtain ⟨m, hp, h⟩ := h
  exact ⟨m, hp, h.pq.quiet o, h.ok, h.only.trans o, h.fresh, fun b hb => ⟨o.at (h.kept b hb).1 (by simp), (h.kept b hb).2⟩⟩
theorem QP.only {w0 : World} {p : Nat} {K : List (Nat × Obj)} {S : Q} {w : World} (h : QP w0 p K S w) : Only [] w0 w := by
  obtain ⟨m, hp, h⟩ := h; exact h.only
theorem QP.ok {w0 : World} {p : Nat} {K : List (Nat × Obj)} {S : Q} {w : World} (h : QP w0 p K S w) : S.Ok := by
  obtain ⟨m, hp, h⟩ := h; exact h.ok
theorem QP.kept {w0 : World} {p : Nat} {K : List (Nat × Obj)} {S : Q} {w : World} (h : QP w0 p K S w) {b : Nat} {o : Obj} (hb : (b, o) ∈ K) : w.heap[b]? = some o := by
  obtain ⟨m, hp, h⟩ := h; exact (h.kept _ hb).1
/-- a new block, kept. -/
theorem QP.keep {w0 : World} {p : Nat} {K : List (Nat × Obj)} {S : Q} {w : World} (h : QP w0 p K S w) (X : Obj) : QP w0 p ((w.heap.size, X) :: K) S (w.alloc X) := by
  obtain ⟨m, hp, h⟩ := h
  have o : Only [] w (w.alloc X) := (Only.refl _ _).alloc X
  refine ⟨m, hp, h.pq.quiet o, h.ok, h.only.trans o, h.fresh, fun b hb => ?_⟩
  rcases List.mem_cons.1 hb with rfl | hb
  · exact ⟨heap_alloc_new' w X, fun hk => by have := h.pq.lt _ hk; simp only at this; omega⟩
  · exact ⟨o.at (h.kept b hb).1 (by simp), (h.kept b hb).2⟩

theorem qp_new (size : Int) (short : Bool) (w : World) (h0 : 1 ≤ size) (h1 : size ≤ 1500) :
    Calls Try.prog 8 #[.int .i64 size, .bool short] w fun e w' => ∃ p, e = .returned (.tuple #[.pointer (some ⟨p, 0, none⟩), .int .i64 0]) ∧ QP w p [] (Q.new size short) w' :=
  (new_good size short w h0 h1).mono fun _ _ ⟨m, e, q, o, f⟩ => ⟨m.p, e, m, rfl, q, new_ok size short h0 h1, o, f, by simp⟩
section
variable {w0 : World} {p : Nat} {K : List (Nat × Obj)} {S : Q} {w : World}
theorem qp_add (h : QP w0 p K S w) (k : Int) (k0 : -9223372036854775808 ≤ k) (k1 : k ≤ 9223372036854775807) : Calls Try.prog 9 #[.pointer (some ⟨p, 0, none⟩), .int .i64 k] w fun e w' => e = .returned (.int .i64 (S.addE k)) ∧ QP w0 p K (S.addS k) w' := by
  obtain ⟨m, rfl, h⟩ := h
  exact (add_any m S k w h.pq h.ok k0 k1).mono fun _ _ ⟨e, m', q, s⟩ => ⟨e, QP.step h (addS_ok h.ok k k1) q s⟩
theorem qp_submit (h : QP w0 p K S w) (s : ByteArray) (hs : s.size ≤ 9223372036854775807) (hc : S.cut + S.packs.length < 1000000) : Calls Try.prog 10 #[.pointer (some ⟨p, 0, none⟩), .string s] w fun e w' => e = .returned (.int .i64 (S.submitE s)) ∧ QP w0 p K (S.submitS s) w' := by
  obtain ⟨m, rfl, h⟩ := h
  exact (submit_any m S s w h.pq h.ok hs).mono fun _ _ ⟨e, m', q, s'⟩ => ⟨e, QP.step h (submitS_ok h.ok s hc) q s'⟩
theorem qp_take (h : QP w0 p K S w) (k : Int) (k0 : -9223372036854775808 ≤ k) (k1 : k ≤ 9223372036854775807) : Calls Try.prog 11 #[.pointer (some ⟨p, 0, none⟩), .int .i64 k] w fun e w' => e = .returned (.tuple #[frV (S.takeF k), .int .i64 (S.takeE k)]) ∧ QP w0 p K (S.takeS k) w' := by
  obtain ⟨m, rfl, h⟩ := h
  exact (take_any m S k w h.pq h.ok k0 k1).mono fun _ _ ⟨e, m', q, s⟩ => ⟨e, QP.step h (takeS_ok h.ok k) q s⟩
theorem qp_drain (h : QP w0 p K S w) (k : Int) (k0 : -9223372036854775808 ≤ k) (k1 : k ≤ 9223372036854775807) : Calls Try.prog 16 #[.pointer (some ⟨p, 0, none⟩), .int .i64 k] w fun e w' => e = .returned (.int .i64 (S.drainE k)) ∧ QP w0 p K (if S.drainE k = 0 then S.drainS k else S) w' := by
  obtain ⟨m, rfl, h⟩ := h
  exact (drain_any m S k w h.pq k0 k1).mono fun _ _ ⟨e, m', q, s⟩ => ⟨e, QP.step h (by split; exact drainS_ok h.ok k; exact h.ok) q s⟩
theorem qp_drop (h : QP w0 p K S w) (k : Int) (k0 : -9223372036854775808 ≤ k) (k1 : k ≤ 9223372036854775807) : Calls Try.prog 15 #[.pointer (some ⟨p, 0, none⟩), .int .i64 k] w fun e w' => e = .returned (.int .i64 (S.dropE k)) ∧ QP w0 p K (S.dropS k) w' := by
  obtain ⟨m, rfl, h⟩ := h
  exact (drop_any m S k w h.pq k0 k1).mono fun _ _ ⟨e, m', q, s⟩ => ⟨e, QP.step h (dropS_ok h.ok k) q s⟩
theorem qp_len (h : QP w0 p K S w) : Calls Try.prog 14 #[.pointer (some ⟨p, 0, none⟩)] w fun e w' => e = .returned (.int .i64 S.len) ∧ Only [] w w' ∧ QP w0 p K S w' := by
  obtain ⟨m, rfl, h⟩ := h
  exact (len_any m S w h.pq h.ok).mono fun _ _ ⟨e, o, q⟩ => ⟨e, o, QP.step h h.ok q (Step.quiet o)⟩
theorem qp_waits (h : QP w0 p K S w) (k : Int) (k0 : -9223372036854775808 ≤ k) (k1 : k ≤ 9223372036854775807) : Calls Try.prog 12 #[.pointer (some ⟨p, 0, none⟩), .int .i64 k] w fun e w' => e = .returned (.int .i64 (S.waits k)) ∧ w = w' := by
  obtain ⟨m, rfl, h⟩ := h
  exact waits_any m S k w h.pq k0 k1
end

/-! the wake -/
def aw0 : Q := Q.new 2 false
def aw1 : Q := aw0.addS 3
def aw2 : Q := aw1.addS 1
def aw3 : Q := aw2.submitS ⟨#[97, 98, 99]⟩
def aw4 : Q := aw3.takeS 3
def aw5 : Q := aw4.takeS 1
def aw6 : Q := aw5.takeS 1
def aw7 : Q := aw6.takeS 9
def aw8 : Q := aw7.drainS 1
def aw9 : Q := aw8.dropS 1
theorem aw_facts : aw0.addE 3 = 0 ∧ aw2.submitE ⟨#[97, 98, 99]⟩ = 0 ∧ aw3.takeE 3 = 0 ∧ aw4.takeE 1 = 0 ∧ aw5.takeE 1 = 2003 ∧ aw6.takeE 9 = 2002 ∧ aw7.drainE 1 = 0 ∧ aw8.dropE 1 = 0 ∧ aw9.len = 0 ∧ (aw3.takeF 3).b = true ∧ (aw3.takeF 3).e = false ∧ (aw3.takeF 3).q = 0 ∧ (aw4.takeF 1).b = false ∧ (aw4.takeF 1).e = true ∧ (aw4.takeF 1).q = 1 := by
  decide +kernel
theorem aw_f1 : aw3.takeF 3 = ⟨true, false, 0, ⟨#[97, 98]⟩⟩ := by kernel_rfl
theorem aw_f2 : aw4.takeF 1 = ⟨false, true, 1, ⟨#[99]⟩⟩ := by kernel_rfl
theorem aw_c : aw2.cut + aw2.packs.length < 1000000 := by decide +kernel

set_option maxRecDepth 100000 in
set_option maxHeartbeats 4000000 in
theorem awake_any (w : World) : Calls Try.prog 7 #[] w fun e w' => e = .returned (.bool true) ∧ Only [] w w' := by
  obtain ⟨f1, f2, f3, f4, f5, f6, f7, f8, f9, _⟩ := aw_facts
  have HA := Lib.hid (And.intro f1 (And.intro f2 (And.intro f3 (And.intro f4 (And.intro f5 (And.intro f6 (And.intro f7 (And.intro f8 f9))))))))
  clear f1 f2 f3 f4 f5 f6 f7 f8 f9
  go_enter Try.func7, Try.ntmps7
  go_wp2_with fail
  refine (qp_new 2 false w (by omega) (by omega)).mono ?_
  rintro e w1 ⟨p, rfl, h0⟩
  have h0' : QP w p [] aw0 w1 := h0
  clear h0
  go_wp2_with (go_at_call 13; refine (num_any _ _).mono ?_; rintro e w' ⟨rfl, rfl⟩)
  refine (qp_add h0' 3 (by omega) (by omega)).mono ?_
  rw [HA.out.1]
  rintro e w2 ⟨rfl, h1⟩
  have h1' : QP w p [] aw1 w2 := h1
  clear h1 h0'
  go_wp2_with fail
  refine (qp_add h1' 1 (by omega) (by omega)).mono ?_
  rintro e w3 ⟨rfl, h2⟩
  have h2' : QP w p [] aw2 w3 := h2
  clear h2 h1'
  go_wp2_with fail
  refine (qp_submit h2' ⟨#[97, 98, 99]⟩ (by decide) aw_c).mono ?_
  rw [HA.out.2.1]
  rintro e w4 ⟨rfl, h3⟩
  have h3' : QP w p [] aw3 w4 := h3
  clear h3 h2'
  go_wp2_with fail
  refine (qp_take h3' 3 (by omega) (by omega)).mono ?_
  rw [HA.out.2.2.1, aw_f1]
  rintro e w5 ⟨rfl, h4⟩
  have h4' : QP w p _ aw4 _ := h4.keep (.cells #[.bool true, .bool false, .int .i64 0, .string ⟨#[97, 98]⟩] 32)
  clear h4 h3'
  simp only [frV]
  go_upto_region 8 with fail
  generalize w5.heap.size = b1 at *
  generalize w5.alloc (.cells #[.bool true, .bool false, .int .i64 0, .string ⟨#[97, 98]⟩] 32) = w6 at *
  go_wp2_with fail
  refine (qp_take h4' 1 (by omega) (by omega)).mono ?_
  rw [HA.out.2.2.2.1, aw_f2]
  rintro e w7 ⟨rfl, h5⟩
  have h5' : QP w p _ aw5 _ := h5.keep (.cells #[.bool false, .bool true, .int .i64 1, .string ⟨#[99]⟩] 32)
  clear h5 h4'
  simp only [frV]
  go_upto_region 9 with fail
  generalize w7.heap.size = b2 at *
  generalize w7.alloc (.cells #[.bool false, .bool true, .int .i64 1, .string ⟨#[99]⟩] 32) = w8 at *
  go_wp2_with fail
  refine (qp_take h5' 1 (by omega) (by omega)).mono ?_
  rw [HA.out.2.2.2.2.1]
  rintro e w9 ⟨rfl, h6⟩
  generalize aw5.takeF 1 = g1
  have h6' : QP w p _ aw6 _ := h6.quiet ((Only.refl [] w9).alloc (.cells #[.bool g1.b, .bool g1.e, .int .i64 g1.q, .string g1.d] 32))
  clear h6 h5'
  simp only [frV]
  go_upto_region 10 with fail
  generalize w9.heap.size = b3 at *
  generalize w9.alloc (.cells #[.bool g1.b, .bool g1.e, .int .i64 g1.q, .string g1.d] 32) = w10 at *
  go_wp2_with fail
  refine (qp_take h6' 9 (by omega) (by omega)).mono ?_
  rw [HA.out.2.2.2.2.2.1]
  rintro e w11 ⟨rfl, h7⟩
  generalize aw6.takeF 9 = g2
  have h7' : QP w p _ aw7 _ := h7.quiet ((Only.refl [] w11).alloc (.cells #[.bool g2.b, .bool g2.e, .int .i64 g2.q, .string g2.d] 32))
  clear h7 h6'
  simp only [frV]
  go_upto_region 11 with fail
  generalize w11.heap.size = b4 at *
  generalize w11.alloc (.cells #[.bool g2.b, .bool g2.e, .int .i64 g2.q, .string g2.d] 32) = w12 at *
  go_wp2_with fail
  refine (qp_drain h7' 1 (by omega) (by omega)).mono ?_
  rw [HA.out.2.2.2.2.2.2.1]
  rintro e w13 ⟨rfl, h8⟩
  have h8' : QP w p _ aw8 _ := h8
  clear h8 h7'
  go_wp2_with fail
  refine (qp_drop h8' 1 (by omega) (by omega)).mono ?_
  rw [HA.out.2.2.2.2.2.2.2.1]
  rintro e w14 ⟨rfl, h9⟩
  have h9' : QP w p _ aw9 _ := h9
  clear h9 h8'
  have r1 := h9'.kept (List.mem_cons_of_mem _ List.mem_cons_self)
  have r2 := h9'.kept List.mem_cons_self
  have u0 := cell_of r1 0
  have u1 := cell_of r1 1
  have u2 := cell_of r1 2
  have u3 := cell_of r1 3
  have v0 := cell_of r2 0
  have v1 := cell_of r2 1
  have v2 := cell_of r2 2
  have v3 := cell_of r2 3
  simp at u0 u1 u2 u3 v0 v1 v2 v3
  have hl := qp_len h9'
  rw [HA.out.2.2.2.2.2.2.2.2] at hl
  have HFin := Lib.hid h9'.only
  clear r1 r2 h9'
  go_wp2_with (first | (go_at_call 13; refine (num_any _ _).mono ?_; rintro e w' ⟨rfl, rfl⟩) | (go_at_call 14; refine hl.mono ?_; rintro e w' ⟨rfl, o, _⟩; have HO := Lib.hid (HFin.out.trans o); clear o))
  go_ret
  exact ⟨rfl, HO.out⟩
end Go.Proofs.Ytjcndeanojeffaa

/- Contracts of chapter 19's small functions. -/
import Derived.Test.YtcfgbfabokhjcaaRows
import Derived.Test.YtcfgbfabokhjcaaBase3
import Derived.Test.YtcfgbfabokhjcaaBase2
import Derived.Test.YtcfgbfabokhjcaaMask
import Derived.Test.YtcfgbfabokhjcaaRegion5
import Derived.Test.YtcfgbfabokhjcaaMapL
import Derived.Test.YtcfgbfabokhjcaaPlain
import Derived.Deep.Cut
import Derived.Deep.DeepCutAuto
import Derived.StillTactics
import Derived.Lib.Hide
namespace Go.Proofs.Ytcfgbfabokhjcaa
open Go.RowKit
open Plain

theorem mixed : Try.prog.follows .mixedOrders = true := by kernel_rfl
theorem num_any (n : Int) (w : World) : Calls Try.prog 14 #[.int .i64 n] w fun e w' => e = .returned (.int .i64 n) ∧ w = w' := by
  go_enter Try.func14, Try.ntmps14
  go_wp2
  go_ret
  exact ⟨rfl, rfl⟩
theorem ring_any (b : Bool) (w : World) : Calls Try.prog 30 #[.bool b] w fun e w' => e = .returned (.int .i64 (ring b)) ∧ w' = w := by
  cases b
  · go_enter Try.func30, Try.ntmps30
    go_wp2
    go_ret
    exact ⟨rfl, rfl⟩
  · go_enter Try.func30, Try.ntmps30
    go_wp2
    go_ret
    exact ⟨rfl, rfl⟩

set_option maxHeartbeats 800000 in
theorem offset_any (p : Nat) (R n q : Int) (w : World) (h : IsRing R) (n0 : 0 ≤ n) (n1 : n < R) (q0 : 0 ≤ q) (q1 : q < R) (c0 : w.cell? ⟨p, 0, none⟩ = some (.int .i64 R)) (c1 : w.cell? ⟨p, 1, none⟩ = some (.int .i64 n)) :
    Calls Try.prog 33 #[.pointer (some ⟨p, 0, none⟩), .int .i64 q] w fun e w' => e = .returned (.int .i64 (off R n q)) ∧ w' = w.drew := by
  have e1 := go_off h q0 q1 n0 n1
  have e2 := go_off_bd h q0 q1 n0 n1
  have hR : 4096 ≤ R ∧ R ≤ 16777216 := by rcases h with e | e <;> omega
  obtain ⟨b1, b2⟩ := e2
  obtain ⟨r1, r2⟩ := hR
  have H := Lib.hid e1
  clear e1 h
  go_enter Try.func33, Try.ntmps33
  go_wp2_with fail
  refine wp_region_reads mixed (by kernel_rfl) ?_
  repeat (refine wpStill_op rfl rfl (fun K hK => ?_); go_step; refine hK _ ?_; clear hK K)
  refine wpStill_nil ?_
  go_wp2_with fail
  go_ret
  exact ⟨by rw [← H.out]; rfl, rfl⟩

set_option maxHeartbeats 800000 in
theorem pos_any (p : Nat) (R n i : Int) (w : World) (h : IsRing R) (n0 : 0 ≤ n) (n1 : n < R) (i0 : 0 ≤ i) (i1 : i ≤ R) (c0 : w.cell? ⟨p, 0, none⟩ = some (.int .i64 R)) (c1 : w.cell? ⟨p, 1, none⟩ = some (.int .i64 n)) :
    Calls Try.prog 44 #[.pointer (some ⟨p, 0, none⟩), .int .i64 i] w fun e w' => e = .returned (.int .i64 (pos R n i)) ∧ w' = w.drew := by
  have hR : 4096 ≤ R ∧ R ≤ 16777216 := by rcases h with e | e <;> omega
  obtain ⟨r1, r2⟩ := hR
  clear h
  go_enter Try.func44, Try.ntmps44
  go_wp2_with fail
  refine wp_region_reads mixed (by kernel_rfl) ?_
  repeat (refine wpStill_op rfl rfl (fun K hK => ?_); go_step; refine hK _ ?_; clear hK K)
  refine wpStill_nil ?_
  go_wp2_with fail
  go_ret
  exact ⟨rfl, rfl⟩

set_option maxHeartbeats 800000 in
theorem signed_any (p : Nat) (R n q : Int) (w : World) (h : IsRing R) (n0 : 0 ≤ n) (n1 : n < R) (q0 : 0 ≤ q) (q1 : q < R) (c0 : w.cell? ⟨p, 0, none⟩ = some (.int .i64 R)) (c1 : w.cell? ⟨p, 1, none⟩ = some (.int .i64 n)) :
    Calls Try.prog 50 #[.pointer (some ⟨p, 0, none⟩), .int .i64 q] w fun e w' => e = .returned (.int .i64 (sgn R n q)) ∧ w' = w.drew := by
  have hR : 4096 ≤ R ∧ R ≤ 16777216 := by rcases h with e | e <;> omega
  obtain ⟨r1, r2⟩ := hR
  have hb := off_bd (n := n) (q := q) h
  have ho := offset_any p R n q w h n0 n1 q0 q1 c0 c1
  unfold sgn
  generalize off R n q = o at *
  obtain ⟨b1, b2⟩ := hb
  by_cases hl : R / 2 ≤ o
  · have d : decide (R / 2 ≤ o) = true := by simpa using hl
    rw [if_pos hl]
    clear h
    go_enter Try.func50, Try.ntmps50
    go_wp2_with fail
    refine ho.mono ?_
    rintro e w' ⟨rfl, rfl⟩
    go_wp2_with fail
    go_ret
    exact ⟨rfl, rfl⟩
  · have d : decide (R / 2 ≤ o) = false := by simpa using hl
    rw [if_neg hl]
    clear h
    go_enter Try.func50, Try.ntmps50
    go_wp2_with fail
    refine ho.mono ?_
    rintro e w' ⟨rfl, rfl⟩
    go_wp2_with fail
    go_ret
    exact ⟨rfl, rfl⟩

/-! the reassembly in the world -/

def frV (f : Fr) : Value := .agg #[.bool f.b, .bool f.e, .int .i64 f.q, .string f.d]
def hm (l : List Fr) : List (Int × Fr) := l.map fun f => (f.q, f)
theorem keyed : Maps.Keyed Try.prog 3 := Maps.int_keyed Try.underlying3
theorem zero3 (w : World) : (zeroValue 3).run Try.prog w = .ok (Value.int .i64 0) w := by kernel_rfl
theorem zero33 (w : World) : (zeroValue 33).run Try.prog w = .ok (frV zeroF) w := by kernel_rfl

structure PJ (w : World) (p bl bh : Nat) (S : J) : Prop where
  obj : w.heap[p]? = some (.cells #[.int .i64 S.R, .int .i64 S.next, .bool S.short, .int .i64 S.most, .map (some bl), .map (some bh), .int .i64 S.lost] 72 (0, 0))
  links : HasMap Try.prog 3 (Value.int .i64) w bl S.links
  held : HasMap Try.prog 3 frV w bh (hm S.held)
  ne : bl ≠ bh
  ok : S.Ok

theorem hm_keys (l : List Fr) : (hm l).map (·.1) = l.map (·.q) := by simp [hm]
theorem hm_look (l : List Fr) (q : Int) : look (hm l) q = l.find? fun f => f.q == q := by
  induction l with
  | nil => rfl
  | cons a l ih =>
    show look ((a.q, a) :: hm l) q = _
    rw [look_cons, ih, List.find?_cons]
    by_cases e : a.q = q
    · simp [e]
    · have h1 : (a.q == q) = false := by simp [e]
      rw [h1, if_neg e]
theorem hm_get (S : J) (q : Int) : look (hm S.held) q = S.get q := hm_look _ _
theorem hm_strike (l : List Fr) (q : Int) : strike (hm l) q = hm (l.filter fun f => f.q != q) := by
  induction l with
  | nil => rfl
  | cons a l ih =>
    rw [List.filter_cons]
    by_cases e : a.q = q
    · have h1 : (a.q != q) = false := by simp [e]
      rw [h1]
      have : strike (hm (a :: l)) q = strike (hm l) q := by simp [strike, hm, e]
      rw [this, ih]
      rfl
    · have h1 : (a.q != q) = true := by simp [e]
      rw [h1]
      have : strike (hm (a :: l)) q = (a.q, a) :: strike (hm l) q := by simp [strike, hm, e]
      rw [this, ih]
      rfl
theorem wf_int {q : Int} (h0 : -9223372036854775808 ≤ q) (h1 : q ≤ 9223372036854775807) : (Lit.int .i64 q).wf = true := WalkArith.wf_i64 (by omega)

theorem PJ.p_bl {w : World} {p bl bh : Nat} {S : J} (h : PJ w p bl bh S) : p ≠ bl := by
  intro e
  subst e
  obtain ⟨_, _, D, ⟨es, c, hb, _⟩, _⟩ := h.links
  rw [h.obj] at hb
  cases hb
theorem PJ.p_bh {w : World} {p bl bh : Nat} {S : J} (h : PJ w p bl bh S) : p ≠ bh := by
  intro e
  subst e
  obtain ⟨_, _, D, ⟨es, c, hb, _⟩, _⟩ := h.held
  rw [h.obj] at hb
  cases hb
theorem PJ.lt {w : World} {p bl bh : Nat} {S : J} (h : PJ w p bl bh S) : p < w.heap.size ∧ bl < w.heap.size ∧ bh < w.heap.size := ⟨lt_of_block h.obj, h.links.lt, h.held.lt⟩
theorem PJ.only {w w' : World} {p bl bh : Nat} {S : J} {T : List Nat} (h : PJ w p bl bh S) (o : Only T w w') (h1 : p ∉ T) (h2 : bl ∉ T) (h3 : bh ∉ T) : PJ w' p bl bh S :=
  ⟨o.at h.obj h1, h.links.same (o.block _ h.lt.2.1 h2), h.held.same (o.block _ h.lt.2.2 h3), h.ne, h.ok⟩
theorem PJ.drew {w : World} {p bl bh : Nat} {S : J} (h : PJ w p bl bh S) : PJ w.drew p bl bh S := h.only (Only.drew (Only.refl [] w)) (by simp) (by simp) (by simp)
theorem PJ.alloc {w : World} {p bl bh : Nat} {S : J} (h : PJ w p bl bh S) (o : Obj) : PJ (w.alloc o) p bl bh S := h.only (Only.alloc (Only.refl [] w) _) (by simp) (by simp) (by simp)

theorem PJ.c0 {w : World} {p bl bh : Nat} {S : J} (h : PJ w p bl bh S) : w.cell? ⟨p, 0, none⟩ = some (.int .i64 S.R) := by have := cell_of h.obj 0; simpa using this
theorem PJ.c1 {w : World} {p bl bh : Nat} {S : J} (h : PJ w p bl bh S) : w.cell? ⟨p, 1, none⟩ = some (.int .i64 S.next) := by have := cell_of h.obj 1; simpa using this
theorem PJ.c2 {w : World} {p bl bh : Nat} {S : J} (h : PJ w p bl bh S) : w.cell? ⟨p, 2, none⟩ = some (.bool S.short) := by have := cell_of h.obj 2; simpa using this
theorem PJ.c3 {w : World} {p bl bh : Nat} {S : J} (h : PJ w p bl bh S) : w.cell? ⟨p, 3, none⟩ = some (.int .i64 S.most) := by have := cell_of h.obj 3; simpa using this
theorem PJ.c4 {w : World} {p bl bh : Nat} {S : J} (h : PJ w p bl bh S) : w.cell? ⟨p, 4, none⟩ = some (.map (some bl)) := by have := cell_of h.obj 4; simpa using this
theorem PJ.c5 {w : World} {p bl bh : Nat} {S : J} (h : PJ w p bl bh S) : w.cell? ⟨p, 5, none⟩ = some (.map (some bh)) := by have := cell_of h.obj 5; simpa using this
theorem PJ.c6 {w : World} {p bl bh : Nat} {S : J} (h : PJ w p bl bh S) : w.cell? ⟨p, 6, none⟩ = some (.int .i64 S.lost) := by have := cell_of h.obj 6; simpa using this
theorem PJ.fz {w : World} {p bl bh : Nat} {S : J} (h : PJ w p bl bh S) (o : Nat) : w.frozen? ⟨p, o, none⟩ = false := frozen_of h.obj o

theorem PJ.linkAt {w : World} {p bl bh : Nat} {S : J} (h : PJ w p bl bh S) (q : Int) (h0 : -9223372036854775808 ≤ q) (h1 : q ≤ 9223372036854775807) :
    (Instr.lookup 69 (.map (some bl)) (.int .i64 q) true).run Try.prog w = .ok (.tuple #[.int .i64 ((look S.links q).getD 0), .bool (S.has q)]) w :=
  h.links.get_ok keyed Try.underlying3 Try.underlying69 (zero3 w) (wf_int h0 h1)
theorem PJ.heldAt {w : World} {p bl bh : Nat} {S : J} (h : PJ w p bl bh S) (q : Int) (h0 : -9223372036854775808 ≤ q) (h1 : q ≤ 9223372036854775807) :
    (Instr.lookup 70 (.map (some bh)) (.int .i64 q) true).run Try.prog w = .ok (.tuple #[.agg #[.bool ((S.get q).getD zeroF).b, .bool ((S.get q).getD zeroF).e, .int .i64 ((S.get q).getD zeroF).q, .string ((S.get q).getD zeroF).d], .bool (S.get q).isSome]) w := by
  rw [← hm_get]
  exact h.held.get_ok keyed Try.underlying3 Try.underlying70 (zero33 w) (wf_int h0 h1)
theorem PJ.linksLen {w : World} {p bl bh : Nat} {S : J} (h : PJ w p bl bh S) (ty : TypeId) : (Builtin.len_ #[69] ty #[.map (some bl)]).run Try.prog w = .ok (.int .i64 S.links.length) w := h.links.len Try.underlying69 ty
theorem PJ.heldLen {w : World} {p bl bh : Nat} {S : J} (h : PJ w p bl bh S) (ty : TypeId) : (Builtin.len_ #[70] ty #[.map (some bh)]).run Try.prog w = .ok (.int .i64 S.held.length) w := by
  have := h.held.len Try.underlying70 ty
  simpa [hm] using this

theorem held_any (p bl bh : Nat) (S : J) (w : World) (h : PJ w p bl bh S) : Calls Try.prog 23 #[.pointer (some ⟨p, 0, none⟩)] w fun e w' => e = .returned (.int .i64 S.held.length) ∧ w = w' := by
  have c5 := h.c5
  have hl := h.heldLen 3
  go_enter Try.func23, Try.ntmps23
  go_wp2
  go_ret
  exact ⟨rfl, rfl⟩
theorem lost_any (p bl bh : Nat) (S : J) (w : World) (h : PJ w p bl bh S) : Calls Try.prog 25 #[.pointer (some ⟨p, 0, none⟩)] w fun e w' => e = .returned (.int .i64 S.lost) ∧ w = w' := by
  have c6 := h.c6
  go_enter Try.func25, Try.ntmps25
  go_wp2
  go_ret
  exact ⟨rfl, rfl⟩

def addE (S : J) (link : Int) : Int := if link < 0 ∨ S.has link = true then 1900 else if 8 ≤ S.links.length then 1901 else 0
def addS (S : J) (link : Int) : J := if addE S link = 0 then { S with links := S.links ++ [(link, -1)] } else S
def dropE (S : J) (link : Int) : Int := if S.has link = true then 0 else 1902
def dropS (S : J) (link : Int) : J := if S.has link = true then { S with links := S.links.filter fun p => p.1 != link } else S
end Go.Proofs.Ytcfgbfabokhjcaa

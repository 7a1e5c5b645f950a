/- Chapter 23: the contract of awake. -/
import Derived.Test.YtpgjlkbjejlinaaCon
namespace Go.Proofs.Ytpgjlkbjejlinaa
open Go.RowKit
open Plain

/-- one tick, as one word. -/
structure St where
  R : Run
  W : List (Int × Int)
  sh : Int
def st0 (n : Int) : St := ⟨run0, zeros n, 0⟩
def stTick (h l k : Int) (s : St) (x : Int × Int) : St := ⟨(turn s.R (dirF (push s.W x) h l) k).1, push s.W x, shareOf (push s.W x)⟩
def ans (h l k : Int) (s : St) (x : Int × Int) : Int := (turn s.R (dirF (push s.W x) h l) k).2
def MS (w : World) (p rr : Nat) (h l k : Int) (s : St) : Prop := MA w p rr h l k s.R s.W s.sh
theorem MS.only {S : List Nat} {w w' : World} {p rr : Nat} {h l k : Int} {s : St} (m : MS w p rr h l k s) (ho : Only S w w') (hp : p ∉ S) (hr : rr ∉ S) : MS w' p rr h l k s := MA.only m ho hp hr
theorem tick_any (p rr : Nat) (h l k b r : Int) (s : St) (w : World) (m : MS w p rr h l k s) (hx : Ok (b, r)) :
    Calls Try.prog 14 #[.pointer (some ⟨p, 0, none⟩), .int .i64 b, .int .i64 r] w fun e w' => e = .returned (.tuple #[.int .i64 (ans h l k s (b, r)), .int .i64 0]) ∧ MS w' p rr h l k (stTick h l k s (b, r)) ∧ Only [p, rr] w w' :=
  mtick p rr h l k b r s.R s.W s.sh w m hx
theorem share_st (p rr : Nat) (h l k : Int) (s : St) (w : World) (m : MS w p rr h l k s) :
    Calls Try.prog 16 #[.pointer (some ⟨p, 0, none⟩)] w fun e w' => e = .returned (.int .i64 s.sh) ∧ w = w' := mshare p rr h l k s.R s.W s.sh w m
theorem new_st (n h l k : Int) (w : World) (hb : mayB n h l k = true) :
    Calls Try.prog 10 #[.int .i64 n, .int .i64 h, .int .i64 l, .int .i64 k] w fun e w' => ∃ p rr, e = .returned (.tuple #[.pointer (some ⟨p, 0, none⟩), .int .i64 0]) ∧
      MS w' p rr h l k (st0 n) ∧ Only [] w w' ∧ w.heap.size ≤ p ∧ w.heap.size ≤ rr := mnew n h l k w hb

theorem q1 : ans 800 200 2 (st0 2) (90, 100) = 0 := by decide
theorem q2 : (stTick 800 200 2 (st0 2) (90, 100)).sh = 900 := by decide
theorem q3 : ans 800 200 2 (stTick 800 200 2 (st0 2) (90, 100)) (90, 100) = 1 := by decide
theorem ok1 : Ok (90, 100) := by unfold Ok; omega

set_option maxRecDepth 100000 in
set_option maxHeartbeats 1000000 in
theorem awake_any (w : World) : Calls Try.prog 13 #[] w fun e w' => e = .returned (.bool true) ∧ Only [] w w' := by
  go_enter Try.func13, Try.ntmps13
  go_wp2_with fail
  refine (new_st 2 800 200 2 w (by decide)).mono ?_
  rintro e w1 ⟨p, rr, rfl, m1, O1, hp, hr⟩
  go_wp2_with (go_at_call 12; refine (num_any _ _).mono ?_; rintro e w' ⟨rfl, rfl⟩)
  refine (tick_any p rr 800 200 2 90 100 _ _ m1 ok1).mono ?_
  rintro e w2 ⟨rfl, m2, O2⟩
  rw [q1]
  go_wp2_with fail
  refine (share_st p rr 800 200 2 _ _ m2).mono ?_
  rintro e w' ⟨rfl, rfl⟩
  rw [q2]
  go_wp2_with fail
  refine (tick_any p rr 800 200 2 90 100 _ _ m2 ok1).mono ?_
  rintro e w3 ⟨rfl, m3, O3⟩
  rw [q3]
  go_wp2_with fail
  refine (mtick_bad _ (-1) 1 _ (by omega)).mono ?_
  rintro e w' ⟨rfl, rfl⟩
  go_wp2_with fail
  refine (new_bad 2 0 0 2 _ (by decide)).mono ?_
  rintro e w' ⟨rfl, rfl⟩
  go_wp2_with (go_at_call 12; refine (num_any _ _).mono ?_; rintro e w' ⟨rfl, rfl⟩)
  go_ret
  exact ⟨rfl, (O1.trans' O2 (by simp; omega)).trans' O3 (by simp; omega)⟩
end Go.Proofs.Ytpgjlkbjejlinaa

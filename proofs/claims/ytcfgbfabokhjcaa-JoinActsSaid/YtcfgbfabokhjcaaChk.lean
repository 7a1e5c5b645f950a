/- Chapter 19: whole; the finite laws' checks. -/
import Derived.Test.YtcfgbfabokhjcaaCon
namespace Go.Proofs.Ytcfgbfabokhjcaa
namespace Plain
open Go
/-- numbers round the ring: each tells its packet. -/
def ringF (R at_ : Int) : Fr := ⟨true, true, at_ % R, ⟨#[120]⟩⟩
def jumpF (R at_ : Int) : Fr := ⟨true, true, at_ % R, ⟨#[106]⟩⟩
def okS (S : J) : Bool := decide (S.held.length ≤ 128) && decide (S.lost + S.held.length < 1000000)
def chkR : Nat → J → Int → Bool
  | 0, _, _ => true
  | n + 1, S, a => okS S && decide (putE S 0 (ringF S.R (a + 1)) = 0) && decide ((putO S 0 (ringF S.R (a + 1))).length = 1) && decide ((putS S 0 (ringF S.R (a + 1))).held.length = 0) && decide ((putS S 0 (ringF S.R (a + 1))).R = S.R) && chkR n (putS S 0 (ringF S.R (a + 1))) (a + 1)
def chkJ : Nat → J → Int → Bool
  | 0, S, a => decide (S.held.length = 0) && chkR 35 S a
  | n + 1, S, a => okS S && decide ((putS S 0 (jumpF S.R (a + S.R / 2 - 2))).R = S.R) && chkJ n (putS S 0 (jumpF S.R (a + S.R / 2 - 2))) (a + S.R / 2 - 2)
theorem chk_ring : chkJ 3 (addS (J.new true 32) 0) 0 = true ∧ chkJ 3 (addS (J.new false 32) 0) 0 = true := by exact ⟨by decide +kernel, by decide +kernel⟩
/-- no more than most are held. -/
def endF (i : Int) : Fr := ⟨false, true, 2 + 2 * i, ⟨#[101]⟩⟩
def chkM : Nat → J → Nat → Bool
  | 0, _, _ => true
  | n + 1, S, i => okS S && decide (putE S 0 (endF i) = 0) && (putO S 0 (endF i)).isEmpty && decide (((putS S 0 (endF i)).held.length : Int) = min ((i : Int) + 1) S.most) && decide ((putS S 0 (endF i)).lost = max 0 ((i : Int) + 1 - S.most)) && decide ((putS S 0 (endF i)).most = S.most) && chkM n (putS S 0 (endF i)) (i + 1)
theorem chk_most : ∀ m : Fin 16, chkM 63 (addS (addS (J.new false (m.val + 1)) 0) 1) 0 = true := by decide +kernel
theorem most_start (m : Int) (_h : 0 ≤ m) : (addS (addS (J.new false (1 + m)) 0) 1).most = 1 + m ∧ (addS (addS (J.new false (1 + m)) 0) 1).held.length = 0 ∧ (addS (addS (J.new false (1 + m)) 0) 1).lost = 0 := ⟨rfl, rfl, rfl⟩
end Plain
end Go.Proofs.Ytcfgbfabokhjcaa

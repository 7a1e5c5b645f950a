/- Chapter 19: the contract of whole; the check of JoinOld. -/
import Derived.Test.YtcfgbfabokhjcaaChk
namespace Go.Proofs.Ytcfgbfabokhjcaa
namespace Plain
open Go
def wholeF (q : Int) (d : ByteArray) : Fr := ⟨true, true, q % 4096, d⟩
def oldT1 (T : J) (a : Int) : J := putS T 0 (wholeF a ⟨#[121]⟩)
def oldT2 (T : J) (a k : Int) : J := putS (oldT1 T a) 0 ⟨true, false, k, ⟨#[97]⟩⟩
def oldT3 (T : J) (a k : Int) : J := putS (oldT2 T a k) 0 ⟨true, false, k, ⟨#[98]⟩⟩
def oldT4 (T : J) (a k : Int) : J := putS (oldT3 T a k) 0 ⟨false, true, k + 1, ⟨#[99]⟩⟩
def finO (T : J) (k a : Nat) : Bool :=
  okS T && okS (oldT1 T a) && okS (oldT2 T a k) && okS (oldT3 T a k) && decide (putE T 0 (wholeF a ⟨#[121]⟩) = 0) && (putO T 0 (wholeF a ⟨#[121]⟩)).isEmpty &&
    decide (putE (oldT3 T a k) 0 ⟨false, true, k + 1, ⟨#[99]⟩⟩ = 0) && decide (putO (oldT3 T a k) 0 ⟨false, true, k + 1, ⟨#[99]⟩⟩ = [⟨#[97, 99]⟩]) && decide ((oldT4 T a k).lost = 2)
def chkO : Nat → J → Nat → Bool
  | 0, _, _ => true
  | n + 1, S, k => okS S && decide (putE S 0 (wholeF k ⟨#[120]⟩) = 0) && decide ((putO S 0 (wholeF k ⟨#[120]⟩)).length = 1) && (List.range (k + 1)).all (finO (putS S 0 (wholeF k ⟨#[120]⟩)) (k + 1)) && chkO n (putS S 0 (wholeF k ⟨#[120]⟩)) (k + 1)
theorem chk_old : chkO 32 (addS (J.new true 64) 0) 0 = true := by decide +kernel
end Plain
open Go.RowKit
open Plain
set_option maxHeartbeats 400000 in
theorem whole_any (q : Int) (s : ByteArray) (w : World) : Calls Try.prog 27 #[.int .i64 q, .string s] w fun e w' => e = .returned (.agg #[.bool true, .bool true, .int .i64 (q % 4096), .string s]) ∧ Only [] w w' := by
  have L := and_4095 q
  have HO := Lib.hid (fun X => (Only.refl [] w).alloc X)
  go_enter Try.func27, Try.ntmps27
  go_wp2
  exact bodyPost_ret (v := .agg #[.bool true, .bool true, .int .i64 (q % 4096), .string s]) (by simp [results, Try.results27, go_sem]) rfl ⟨rfl, HO.out _⟩
end Go.Proofs.Ytcfgbfabokhjcaa

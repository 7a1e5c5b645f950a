/- The contract of SameFrags at two equal lists. -/
import Derived.Test.YthhhbnbhcedhmaaFns
namespace Go.Proofs.Ythhhbnbhcedhmaa
open Go.RowKit
open Plain

set_option maxRecDepth 100000 in
set_option maxHeartbeats 2000000 in
theorem same_frags (a b : Option Addr) (n ca cb : Nat) (fs : List Fr) (w : World) (hn : fs.length = n) (hl : n ≤ 9223372036854775807) (ha : Sl w 39 4 a n ca (flatF fs)) (hb : Sl w 39 4 b n cb (flatF fs)) :
    Calls Try.prog 11 #[.slice a n ca, .slice b n cb] w fun e w' => e = .returned (.bool true) ∧ Only [] w w' := by
  have hne : ((n : Int) != (n : Int)) = false := by simp
  go_enter Try.func11, Try.ntmps11
  go_wp2
  go_loopw [5] (fun i wr => ∃ k : Nat, k ≤ n ∧ i = .int .i64 k ∧ Only [] w wr) (fun i _ => n - (intOf i).toNat)
  case atStart => exact ⟨0, Nat.zero_le _, rfl, Only.refl _ _⟩
  case round =>
    obtain ⟨k, hk, rfl, ho⟩ := hrel
    by_cases hlt : k < n
    · have ha2 := ha.only ho (by simp)
      have hb2 := hb.only ho (by simp)
      obtain ⟨ga, oa, rfl⟩ := ha.some (by omega)
      obtain ⟨gb, ob, rfl⟩ := hb.some (by omega)
      obtain ⟨f0, f1, f2, f3⟩ := flatF_get fs k (by omega)
      have a0 := ha2.cells _ _ f0
      have a1 := ha2.cells _ _ f1
      have a2 := ha2.cells _ _ f2
      have a3 := ha2.cells _ _ f3
      have b0 := hb2.cells _ _ f0
      have b1 := hb2.cells _ _ f1
      have b2 := hb2.cells _ _ f2
      have b3 := hb2.cells _ _ f3
      simp only [← Nat.add_assoc] at a1 a2 a3 b1 b2 b3
      clear ha hb ha2 hb2 f0 f1 f2 f3
      generalize fs[k].b = x0 at *
      generalize fs[k].e = x1 at *
      generalize fs[k].q = x2 at *
      generalize fs[k].d = x3 at *
      have kl : (k : Int) < (n : Int) := by omega
      have kd : decide (k < n) = true := by simp; omega
      go_wp2_with fail
      refine wp_region_reads mixed (by kernel_rfl) ?_
      repeat (refine wpStill_op rfl rfl (fun K hK => ?_); go_step; refine hK _ ?_; clear hK K)
      refine wpStill_nil ?_
      go_wp2
      go_roundw
      case rel => exact ⟨k+1, by omega, by go_num, ho.drew⟩
      case measure => simp [intOf]; omega
    · have kd : decide (k < n) = false := by simp; omega
      go_wp2
      go_ret
      exact ⟨rfl, ho⟩
end Go.Proofs.Ythhhbnbhcedhmaa

/- Chapter 19: contracts of the document's own reassembly: many are let go. -/
import Derived.Test.YtcfgbfabokhjcaaRFns3
namespace Go.Proofs.Ytcfgbfabokhjcaa
open Go.RowKit
open Plain

set_option maxRecDepth 100000 in
set_option maxHeartbeats 2000000 in
theorem rclear_any (m : RM) (S : J) (n : Nat) (w : World) (h : RJ w m S) (hn : n ≤ 200) (hg : ∀ j, j < n → (S.get (pos S.R S.next j)).isSome = true) :
    Calls Try.prog 49 #[.pointer (some ⟨m.r, 0, none⟩), .int .i64 n] w fun e w' => ∃ m', e = .returned (.int .i64 n) ∧ RJ w' m' { S with held := fromL S.R S.next n S.held } ∧ RStep w w' m m' := by
  have HOk := Lib.hid h.ok
  have HG := Lib.hid hg
  obtain ⟨r1, r2⟩ := h.ok.r0
  have n0 := h.ok.next0
  have n1 := h.ok.next1
  have hst0 : RJ w m { S with held := fromL S.R S.next ((0 : Nat) : Int) S.held } := by
    rw [show ((0 : Nat) : Int) = 0 from rfl, from_zero h.ok.isRing]
    exact h
  clear h hg
  obtain ⟨r, al, cl, ah, ch⟩ := m
  go_enter Try.func49, Try.ntmps49
  go_wp2_with fail
  go_loopw [5] (fun i wr => ∃ (k : Nat) (al' : Option Addr) (cl' : Nat) (ah' : Option Addr) (ch' : Nat), i = .int .i64 k ∧ k ≤ n ∧ RJ wr ⟨r, al', cl', ah', ch'⟩ { S with held := fromL S.R S.next k S.held } ∧ RStep w wr ⟨r, al, cl, ah, ch⟩ ⟨r, al', cl', ah', ch'⟩) (fun i _ => n - (intOf i).toNat)
  case atStart => exact ⟨0, al, cl, ah, ch, rfl, by omega, hst0, RStep.refl _ _⟩
  case round =>
    clear hst0
    obtain ⟨i, al', cl', ah', ch', rfl, hi, hT, hst⟩ := hrel
    by_cases hlt : i < n
    · have kd : decide ((i : Int) < (n : Int)) = true := by simp; omega
      have kd2 : decide (i < n) = true := by simpa using hlt
      have hTd := hT.drew
      have c0 : wr.drew.cell? ⟨r, 0, none⟩ = some (.bool S.short) := hTd.c0
      have c4 : wr.drew.cell? ⟨r, 4, none⟩ = some (.int .i64 S.next) := hTd.c4
      have hsome : (J.get { S with held := fromL S.R S.next i S.held } (pos S.R S.next i)).isSome = true := by rw [clear_get HOk.out (by omega)]; exact HG.out i hlt
      have hr := ring37s HOk.out.ring wr.drew
      rcases at_cases hT.ok (pos S.R S.next i) with ⟨_, h2⟩ | ⟨k, hk, hat, hq, hgk⟩
      · exfalso
        rw [h2] at hsome
        cases hsome
      have hcall := at_still _ _ (pos S.R S.next i) wr.drew hTd
      rw [hat] at hcall
      have hlet := rlet_any _ _ k wr.drew hTd hk
      have hE : J.outAt { S with held := fromL S.R S.next i S.held } k = { S with held := fromL S.R S.next ((i + 1 : Nat) : Int) S.held } := by
        have := clear_step HOk.out i (by omega) hk hq
        unfold J.outAt
        rw [← this]
      rw [hE] at hlet
      have HLet := Lib.hid hlet
      have HSt := Lib.hid (hst.trans (RStep.quiet (Only.drew (Only.refl [] wr))))
      have HAt := Lib.hid (show Calls Try.prog 38 #[.pointer (some ⟨r, 0, none⟩), .int .i64 ((S.next + (i : Int)) % S.R)] wr.drew fun e w' => e = .returned (.int .i64 k) ∧ w' = wr.drew from hcall)
      clear hT hTd hsome hat hq hcall hlet hE hst hgk hk
      go_upto_region 4 with fail
      refine wp_region_free 15 [] [15] mixed (by kernel_rfl) (fun d v c a w h => by cases d <;> exact h) ?_
      simp only [Region.heads, List.range, List.range.loop, List.filter_cons, List.filter_nil, List.contains_nil, Bool.not_false, if_true, List.nil_append, List.filterMap_cons, List.filterMap_nil, List.getElem?_cons_succ, List.getElem?_cons_zero]
      iterate 12 ((with_reducible refine wpStill_op ?_ ?_ ?_); (focus kernel_rfl); (focus kernel_rfl); intro K hK; go_step; refine hK _ ?_; clear hK K)
      still_call hr
      iterate 1 ((with_reducible refine wpStill_op ?_ ?_ ?_); (focus kernel_rfl); (focus kernel_rfl); intro K hK; go_step; refine hK _ ?_; clear hK K)
      still_call HAt.out
      refine wpStill_nil ?_
      clear c0 c4
      go_wp2_with fail
      refine HLet.out.mono ?_
      rintro e w2 ⟨⟨r2', al2, cl2, ah2, ch2⟩, rfl, h2, hst2⟩
      have er : r2' = r := hst2.r
      subst er
      have HF := Lib.hid (And.intro h2 (HSt.out.trans hst2))
      clear h2 hst2 HLet HSt
      go_wp2_with fail
      go_roundw
      case rel => exact ⟨i + 1, al2, cl2, ah2, ch2, by go_num, by omega, HF.out.1, HF.out.2⟩
      case measure => simp [intOf]; omega
    · have kd : decide ((i : Int) < (n : Int)) = false := by simp; omega
      have kd2 : decide (i < n) = false := by simpa using hlt
      have e : i = n := by omega
      have HF := Lib.hid (And.intro hT hst)
      rw [e] at HF
      clear hT hst
      go_wp2_with fail
      go_ret
      exact ⟨_, rfl, HF.out⟩
end Go.Proofs.Ytcfgbfabokhjcaa

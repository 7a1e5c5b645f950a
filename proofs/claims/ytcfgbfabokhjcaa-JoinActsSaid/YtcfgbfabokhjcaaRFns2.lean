/- Chapter 19: contracts of the document's own reassembly: M, the first one held. -/
import Derived.Test.YtcfgbfabokhjcaaRFns
namespace Go.Proofs.Ytcfgbfabokhjcaa
namespace Plain
open Go
theorem minS_take {R n : Int} {l : List (Int × Int)} {k : Nat} (hk : k < l.length) : minS R n (l.take (k + 1)) = min (minS R n (l.take k)) (sgn R n l[k].2) := by
  rw [List.take_succ_eq_append_getElem hk, minS_snoc]
theorem mI_all {S : J} (h : ∀ j (hj : j < S.links.length), 0 ≤ S.links[j].2) : S.mI = minS S.R S.next S.links ∧ S.mB = decide (0 < S.links.length) := by
  have hany : S.links.any (fun p => decide (p.2 < 0)) = false := by
    rw [List.any_eq_false]
    intro p hp
    obtain ⟨j, hj, rfl⟩ := List.getElem_of_mem hp
    have := h j hj
    simp
    omega
  unfold J.mI J.mB
  rw [hany]
  exact ⟨rfl, by simp⟩
theorem mI_some {S : J} {k : Nat} (hk : k < S.links.length) (h : S.links[k].2 < 0) : S.mI = 0 ∧ S.mB = false := by
  have hany : S.links.any (fun p => decide (p.2 < 0)) = true := List.any_eq_true.2 ⟨_, List.getElem_mem hk, by simpa using h⟩
  unfold J.mI J.mB
  rw [hany]
  exact ⟨rfl, rfl⟩
end Plain
open Go.RowKit
open Plain
theorem ret_ib {a a' : Int} {b b' : Bool} (h1 : a = a') (h2 : b = b') : Ending.returned (.tuple #[.int .i64 a, .bool b]) = .returned (.tuple #[.int .i64 a', .bool b']) := by rw [h1, h2]
theorem roff_still (m : RM) (S : J) (x : Int) (w : World) (h : RJ w m S) (x0 : 0 ≤ x) (x1 : x < S.R) :
    Calls Try.prog 36 #[.pointer (some ⟨m.r, 0, none⟩), .int .i64 x] w fun e w' => e = .returned (.int .i64 (off S.R S.next x)) ∧ w' = w := (roff_any m S x w h x0 x1).mono fun _ _ ⟨a, b⟩ => ⟨a, b.symm⟩
theorem at_still (m : RM) (S : J) (q : Int) (w : World) (h : RJ w m S) :
    Calls Try.prog 38 #[.pointer (some ⟨m.r, 0, none⟩), .int .i64 q] w fun e w' => e = .returned (.int .i64 (S.at q)) ∧ w' = w := (at_any m S q w h).mono fun _ _ ⟨a, b⟩ => ⟨a, b.symm⟩
theorem ring37s {b : Bool} {R : Int} (h : R = ring b) (w : World) : Calls Try.prog 37 #[.bool b] w fun e w' => e = .returned (.int .i64 R) ∧ w' = w := by rw [h]; exact Cutp.ring_still b w

set_option maxHeartbeats 2000000 in
theorem m_any (m : RM) (S : J) (w : World) (h : RJ w m S) :
    Calls Try.prog 48 #[.pointer (some ⟨m.r, 0, none⟩)] w fun e w' => e = .returned (.tuple #[.int .i64 S.mI, .bool S.mB]) ∧ Only [] w w' := by
  have hof := fun x x0 x1 => roff_any m S x w h x0 x1
  have hcd : w.drew.cell? ⟨m.r, 2, none⟩ = some (.slice m.al S.links.length m.cl) := h.drew.c2
  obtain ⟨r, al, cl, ah, ch⟩ := m
  have c0 : w.cell? ⟨r, 0, none⟩ = some (.bool S.short) := h.c0
  have c2 : w.cell? ⟨r, 2, none⟩ = some (.slice al S.links.length cl) := h.c2
  have hcd2 : w.drew.cell? ⟨r, 2, none⟩ = some (.slice al S.links.length cl) := hcd
  have HL := Lib.hid h.links
  have HOf := Lib.hid (show ∀ x, 0 ≤ x → x < S.R → Calls Try.prog 36 #[.pointer (some ⟨r, 0, none⟩), .int .i64 x] w fun e w' => e = .returned (.int .i64 (off S.R S.next x)) ∧ w = w' from hof)
  have HOk := Lib.hid h.ok
  have hl8 := h.ok.links8
  have hr := ring37 h.ok.ring w
  obtain ⟨r1, r2⟩ := h.ok.r0
  have HMB := Lib.hid (fun k => minS_bd (n := S.next) h.ok.isRing (S.links.take k))
  clear h hcd hof
  go_enter Try.func48, Try.ntmps48
  go_wp2_with (go_at_call 37; refine hr.mono ?_; rintro e w' ⟨rfl, rfl⟩)
  go_loop [5, 6] (fun x i => ∃ k : Nat, k ≤ S.links.length ∧ i = .int .i64 k ∧ x = .int .i64 (minS S.R S.next (S.links.take k)) ∧ ∀ j (hj : j < S.links.length), j < k → 0 ≤ S.links[j].2) (fun _ i => S.links.length - (intOf i).toNat)
  case atStart => exact ⟨0, Nat.zero_le _, rfl, rfl, fun j hj c => absurd c (by omega)⟩
  case round =>
    obtain ⟨k, hk, rfl, rfl, hall⟩ := hrel
    have HA := Lib.hid hall
    clear hall
    by_cases hlt : k < S.links.length
    · have kd : decide (k < S.links.length) = true := by simpa using hlt
      obtain ⟨gb, go, rfl⟩ := HL.out.some (by omega)
      have f1 := HL.out.cells _ _ (flatL_get S.links k hlt).2
      simp only [← Nat.add_assoc] at f1
      by_cases hneg : S.links[k].2 < 0
      · have d : decide (S.links[k].2 < 0) = true := by simpa using hneg
        obtain ⟨e1, e2⟩ := mI_some hlt hneg
        have HE := Lib.hid (And.intro e1 e2)
        clear e1 e2 hcd2
        go_wp2_with fail
        go_ret2
        exact ⟨ret_ib HE.out.1.symm HE.out.2.symm, Only.refl _ _⟩
      · have d : decide (S.links[k].2 < 0) = false := by simpa using hneg
        have hb := (HOk.out.link _ (List.getElem_mem hlt)).2.2.2
        have hcall := HOf.out S.links[k].2 (by omega) hb
        have HS := Lib.hid (minS_take (R := S.R) (n := S.next) hlt)
        obtain ⟨o0, o1⟩ := off_bd (n := S.next) (q := S.links[k].2) HOk.out.isRing
        have HSg := Lib.hid (show sgn S.R S.next S.links[k].2 = if S.R / 2 ≤ off S.R S.next S.links[k].2 then off S.R S.next S.links[k].2 - S.R else off S.R S.next S.links[k].2 from rfl)
        obtain ⟨m0, m1⟩ := HMB.out k
        have HA2 := Lib.hid (show ∀ j (hj : j < S.links.length), j < k + 1 → 0 ≤ S.links[j].2 from fun j hj c => by
          by_cases e : j = k
          · subst e; omega
          · exact HA.out j hj (by omega))
        clear hb hneg hcd2
        generalize sgn S.R S.next S.links[k].2 = sg at *
        generalize off S.R S.next S.links[k].2 = o at *
        generalize S.links[k].2 = last at *
        generalize minS S.R S.next (S.links.take k) = mk at *
        by_cases hge : S.R / 2 ≤ o
        · have d2 : decide (S.R / 2 ≤ o) = true := by simpa using hge
          have he := HSg.out
          rw [if_pos hge] at he
          have HS2 := HS.out
          rw [he] at HS2
          have HS3 := Lib.hid HS2
          clear he HS2 HSg
          generalize S.R = R at *
          go_wp2_with (first | (go_at_call 36; refine hcall.mono ?_; rintro e w' ⟨rfl, rfl⟩) | ((with_reducible apply wpList_min); (focus rfl); (focus rfl)))
          go_round
          case rel => exact ⟨k + 1, by omega, by go_num, by rw [HS3.out], HA2.out⟩
          case measure => simp [intOf]; omega
        · have d2 : decide (S.R / 2 ≤ o) = false := by simpa using hge
          have he := HSg.out
          rw [if_neg hge] at he
          have HS2 := HS.out
          rw [he] at HS2
          have HS3 := Lib.hid HS2
          clear he HS2 HSg
          generalize S.R = R at *
          go_wp2_with (first | (go_at_call 36; refine hcall.mono ?_; rintro e w' ⟨rfl, rfl⟩) | ((with_reducible apply wpList_min); (focus rfl); (focus rfl)))
          go_round
          case rel => exact ⟨k + 1, by omega, by go_num, by rw [HS3.out], HA2.out⟩
          case measure => simp [intOf]; omega
    · have kd : decide (k < S.links.length) = false := by simpa using hlt
      have hkl : k = S.links.length := by omega
      obtain ⟨e1, e2⟩ := mI_all (fun j hj => HA.out j hj (by omega))
      rw [hkl, List.take_length, ← e1]
      have HE := Lib.hid e2
      clear e1 e2
      go_upto_region 12 with fail
      refine wp_region_reads mixed (by kernel_rfl) ?_
      iterate 9 ((with_reducible refine wpStill_op ?_ ?_ ?_); (focus kernel_rfl); (focus kernel_rfl); intro K hK; go_step; refine hK _ ?_; clear hK K)
      refine wpStill_nil ?_
      go_wp2_with fail
      go_ret2
      exact ⟨ret_ib rfl (by rw [HE.out]; first | done | simp), Only.drew (Only.refl _ _)⟩
end Go.Proofs.Ytcfgbfabokhjcaa

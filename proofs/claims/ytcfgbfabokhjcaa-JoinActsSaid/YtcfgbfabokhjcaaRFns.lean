/- Chapter 19: contracts of the document's own reassembly: what only reads. -/
import Derived.Test.YtcfgbfabokhjcaaRMem
namespace Go.Proofs.Ytcfgbfabokhjcaa
open Go.RowKit
open Plain

theorem ring37 {b : Bool} {R : Int} (h : R = ring b) (w : World) : Calls Try.prog 37 #[.bool b] w fun e w' => e = .returned (.int .i64 R) ∧ w = w' := by rw [h]; exact Cutp.ring16 b w

theorem roff_any (m : RM) (S : J) (x : Int) (w : World) (h : RJ w m S) (x0 : 0 ≤ x) (x1 : x < S.R) :
    Calls Try.prog 36 #[.pointer (some ⟨m.r, 0, none⟩), .int .i64 x] w fun e w' => e = .returned (.int .i64 (off S.R S.next x)) ∧ w = w' := by
  obtain ⟨r, al, cl, ah, ch⟩ := m
  have c0 : w.cell? ⟨r, 0, none⟩ = some (.bool S.short) := h.c0
  have c4 : w.cell? ⟨r, 4, none⟩ = some (.int .i64 S.next) := h.c4
  have hr := ring37 h.ok.ring w
  have hR := h.ok.r0
  have n0 := h.ok.next0
  have n1 := h.ok.next1
  have HI := Lib.hid h.ok.isRing
  obtain ⟨r1, r2⟩ := hR
  clear h
  generalize S.R = R at *
  generalize S.next = n at *
  generalize S.short = b at *
  have HE := Lib.hid (show (x - n + R) % R = off R n x by unfold off; rcases HI.out with rfl | rfl <;> omega)
  have nR : ¬ R = 0 := by omega
  have p1 : 0 ≤ x - n + R := by omega
  go_enter Try.func36, Try.ntmps36
  go_wp2_with (go_at_call 37; refine hr.mono ?_; rintro e w' ⟨rfl, rfl⟩)
  go_ret
  exact ⟨by rw [← HE.out]; first | rfl | simp, rfl⟩
theorem rheld_any (m : RM) (S : J) (w : World) (h : RJ w m S) :
    Calls Try.prog 24 #[.pointer (some ⟨m.r, 0, none⟩)] w fun e w' => e = .returned (.int .i64 S.held.length) ∧ w = w' := by
  obtain ⟨r, al, cl, ah, ch⟩ := m
  have c3 : w.cell? ⟨r, 3, none⟩ = some (.slice ah S.held.length ch) := h.c3
  have hl := h.ok.count
  clear h
  go_enter Try.func24, Try.ntmps24
  go_wp2
  go_ret
  exact ⟨rfl, rfl⟩

set_option maxHeartbeats 1000000 in
theorem place_any (m : RM) (S : J) (q : Int) (w : World) (h : RJ w m S) :
    Calls Try.prog 31 #[.pointer (some ⟨m.r, 0, none⟩), .int .i64 q] w fun e w' => e = .returned (.int .i64 (S.place q)) ∧ w = w' := by
  obtain ⟨r, al, cl, ah, ch⟩ := m
  have c2 : w.cell? ⟨r, 2, none⟩ = some (.slice al S.links.length cl) := h.c2
  have HL := Lib.hid h.links
  have hl8 := h.ok.links8
  have HN := Lib.hid (show S.links.length = S.links.length from rfl)
  clear h
  go_enter Try.func31, Try.ntmps31
  go_wp2_with fail
  go_loop [5] (fun i => ∃ k : Nat, k ≤ S.links.length ∧ i = .int .i64 k ∧ ∀ j (hj : j < S.links.length), j < k → (S.links[j].1 == q) = false) (fun i => S.links.length - (intOf i).toNat)
  case atStart => exact ⟨0, Nat.zero_le _, rfl, fun j hj c => absurd c (by omega)⟩
  case round =>
    obtain ⟨k, hk, rfl, hall⟩ := hrel
    have HA := Lib.hid hall
    clear hall
    by_cases hlt : k < S.links.length
    · have kd : decide (k < S.links.length) = true := by simpa using hlt
      obtain ⟨gb, go, rfl⟩ := HL.out.some (by omega)
      have f0 := HL.out.cells _ _ (flatL_get S.links k hlt).1
      by_cases hq : S.links[k].1 = q
      · have HE := Lib.hid (show S.place q = k from idx_some hlt (by simpa using hq) (fun j hj c => HA.out j hj c))
        have d : (S.links[k].1 == q) = true := by simpa using hq
        clear hq
        go_wp2_with fail
        go_ret
        exact ⟨ret_int HE.out.symm, rfl⟩
      · have d : (S.links[k].1 == q) = false := by simpa using hq
        clear hq
        have HA2 := Lib.hid (show ∀ j (hj : j < S.links.length), j < k + 1 → (S.links[j].1 == q) = false from fun j hj c => by
          by_cases e : j = k
          · subst e; exact d
          · exact HA.out j hj (by omega))
        go_wp2_with fail
        go_round
        case rel => exact ⟨k + 1, by omega, by go_num, HA2.out⟩
        case measure => simp [intOf]; omega
    · have kd : decide (k < S.links.length) = false := by simpa using hlt
      have HE := Lib.hid (show S.place q = -1 from idx_none (fun j hj => HA.out j hj (by omega)))
      go_wp2_with fail
      go_ret
      exact ⟨ret_int HE.out.symm, rfl⟩

set_option maxHeartbeats 1000000 in
theorem at_any (m : RM) (S : J) (q : Int) (w : World) (h : RJ w m S) :
    Calls Try.prog 38 #[.pointer (some ⟨m.r, 0, none⟩), .int .i64 q] w fun e w' => e = .returned (.int .i64 (S.at q)) ∧ w = w' := by
  obtain ⟨r, al, cl, ah, ch⟩ := m
  have c3 : w.cell? ⟨r, 3, none⟩ = some (.slice ah S.held.length ch) := h.c3
  have HL := Lib.hid h.held
  have hl8 := h.ok.count
  clear h
  go_enter Try.func38, Try.ntmps38
  go_wp2_with fail
  go_loop [5] (fun i => ∃ k : Nat, k ≤ S.held.length ∧ i = .int .i64 k ∧ ∀ j (hj : j < S.held.length), j < k → (S.held[j].q == q) = false) (fun i => S.held.length - (intOf i).toNat)
  case atStart => exact ⟨0, Nat.zero_le _, rfl, fun j hj c => absurd c (by omega)⟩
  case round =>
    obtain ⟨k, hk, rfl, hall⟩ := hrel
    have HA := Lib.hid hall
    clear hall
    by_cases hlt : k < S.held.length
    · have kd : decide (k < S.held.length) = true := by simpa using hlt
      obtain ⟨gb, go, rfl⟩ := HL.out.some (by omega)
      have f2 := HL.out.cells _ _ (Cutp.flatF_get S.held k hlt).2.2.1
      simp only [← Nat.add_assoc] at f2
      by_cases hq : S.held[k].q = q
      · have HE := Lib.hid (show S.at q = k from idx_some hlt (by simpa using hq) (fun j hj c => HA.out j hj c))
        have d : (S.held[k].q == q) = true := by simpa using hq
        clear hq
        go_wp2_with fail
        go_ret
        exact ⟨ret_int HE.out.symm, rfl⟩
      · have d : (S.held[k].q == q) = false := by simpa using hq
        clear hq
        have HA2 := Lib.hid (show ∀ j (hj : j < S.held.length), j < k + 1 → (S.held[j].q == q) = false from fun j hj c => by
          by_cases e : j = k
          · subst e; exact d
          · exact HA.out j hj (by omega))
        go_wp2_with fail
        go_round
        case rel => exact ⟨k + 1, by omega, by go_num, HA2.out⟩
        case measure => simp [intOf]; omega
    · have kd : decide (k < S.held.length) = false := by simpa using hlt
      have HE := Lib.hid (show S.at q = -1 from idx_none (fun j hj => HA.out j hj (by omega)))
      go_wp2_with fail
      go_ret
      exact ⟨ret_int HE.out.symm, rfl⟩
end Go.Proofs.Ytcfgbfabokhjcaa

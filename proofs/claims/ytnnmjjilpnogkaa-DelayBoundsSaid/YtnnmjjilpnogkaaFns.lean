/- The contracts of chapter 12's functions: the program's Delay, the document's Delay, Num and awake. -/
import Derived.Test.YtnnmjjilpnogkaaRows
import Derived.Test.YtnnmjjilpnogkaaPlain
import Derived.WalkKit
import Derived.WalkSpells
import Derived.WalkLawsBesides
namespace Go.Proofs.Ytnnmjjilpnogkaa
open Go.RowKit
open Plain

set_option maxHeartbeats 400000 in
theorem delay_bad (t b m j : Int) (w : World) (h : t < 0 ∨ 62 < t ∨ b < 1 ∨ 4096 < b ∨ m < b ∨ 4096 < m ∨ j < 0) :
    Calls Try.prog 8 #[.int .i64 t, .int .i64 b, .int .i64 m, .int .i64 j] w fun e w' => e = .returned (.tuple #[.int .i64 0, .int .i64 1200]) ∧ w = w' := by
  by_cases h1 : t < 0
  · go_enter Try.func8, Try.ntmps8
    go_wp2
    go_ret2
    exact ⟨rfl, rfl⟩
  by_cases h2 : 62 < t
  · go_enter Try.func8, Try.ntmps8
    go_wp2
    go_ret2
    exact ⟨rfl, rfl⟩
  by_cases h3 : b < 1
  · go_enter Try.func8, Try.ntmps8
    go_wp2
    go_ret2
    exact ⟨rfl, rfl⟩
  by_cases h4 : 4096 < b
  · go_enter Try.func8, Try.ntmps8
    go_wp2
    go_ret2
    exact ⟨rfl, rfl⟩
  by_cases h5 : m < b
  · go_enter Try.func8, Try.ntmps8
    go_wp2
    go_ret2
    exact ⟨rfl, rfl⟩
  by_cases h6 : 4096 < m
  · go_enter Try.func8, Try.ntmps8
    go_wp2
    go_ret2
    exact ⟨rfl, rfl⟩
  have h7 : j < 0 := by omega
  clear h
  go_enter Try.func8, Try.ntmps8
  go_wp2
  go_ret2
  exact ⟨rfl, rfl⟩

set_option maxHeartbeats 1000000 in
theorem delay_good (t b m j : Int) (w : World) (h1 : 0 ≤ t) (h2 : t ≤ 62) (h3 : 1 ≤ b) (h4 : b ≤ 4096) (h5 : b ≤ m) (h6 : m ≤ 4096) (h7 : 0 ≤ j) (h8 : j ≤ 9223372036854775807) :
    Calls Try.prog 8 #[.int .i64 t, .int .i64 b, .int .i64 m, .int .i64 j] w fun e w' => e = .returned (.tuple #[.int .i64 (D b m t.toNat - j % (D b m t.toNat / 4 + 1)), .int .i64 0]) ∧ w = w' := by
  have g1 : decide (t < 0) = false := by simp; omega
  have g2 : decide (62 < t) = false := by simp; omega
  have g3 : decide (b < 1) = false := by simp; omega
  have g4 : decide (4096 < b) = false := by simp; omega
  have g5 : decide (m < b) = false := by simp; omega
  have g6 : decide (4096 < m) = false := by simp; omega
  have g7 : decide (j < 0) = false := by simp; omega
  go_enter Try.func8, Try.ntmps8
  go_wp2
  clear g1 g2 g3 g4 g5 g6 g7
  go_loop [10, 40] (fun d i => ∃ k : Nat, k ≤ t.toNat ∧ i = .int .i64 k ∧ d = .int .i64 (D b m k)) (fun _ i => t.toNat - (intOf i).toNat)
  case atStart => exact ⟨0, Nat.zero_le _, rfl, rfl⟩
  case round =>
    obtain ⟨k, hk, rfl, rfl⟩ := hrel
    have hb := D_bd b m h3 h5 k
    obtain ⟨hb1, hb2⟩ := hb
    have hbt := D_bd b m h3 h5 t.toNat
    obtain ⟨hc1, hc2⟩ := hbt
    by_cases hlt : (k : Int) < t
    · by_cases hd : m / 2 < D b m k
      · have HD := Hid.out (p := D b m t.toNat = m) (D_top_le b m (by omega) (k + 1) t.toNat (by omega) (by rw [D_succ, if_neg (by omega)]))
        have HH : Hid (D b m t.toNat = m) := HD
        clear HD
        have e1 : 0 ≤ j % (m / 4 + 1) := Int.emod_nonneg _ (by omega)
        have e2 : j % (m / 4 + 1) < m / 4 + 1 := Int.emod_lt_of_pos _ (by omega)
        go_wp2
        go_ret2
        rw [HH.out]
        exact ⟨rfl, rfl⟩
      · have HD : Hid (D b m (k + 1) = D b m k * 2) := by
          show D b m (k + 1) = D b m k * 2
          rw [D_succ, if_pos (by omega)]; omega
        go_wp2
        go_round
        case rel => exact ⟨k + 1, by omega, by go_num, by rw [HD.out]⟩
        case measure => simp [intOf]; omega
    · have hkt : Hid (t.toNat = k) := by show t.toNat = k; omega
      rw [hkt.out] at hc1 hc2
      have e1 : 0 ≤ j % (D b m k / 4 + 1) := Int.emod_nonneg _ (by omega)
      have e2 : j % (D b m k / 4 + 1) < D b m k / 4 + 1 := Int.emod_lt_of_pos _ (by omega)
      go_wp2
      go_ret2
      rw [hkt.out]
      exact ⟨rfl, rfl⟩

set_option maxHeartbeats 400000 in
theorem rdelay_bad (t b m j : Int) (w : World) (h : t < 0 ∨ 62 < t ∨ b < 1 ∨ 4096 < b ∨ m < b ∨ 4096 < m ∨ j < 0) :
    Calls Try.prog 9 #[.int .i64 t, .int .i64 b, .int .i64 m, .int .i64 j] w fun e w' => e = .returned (.tuple #[.int .i64 0, .int .i64 1200]) ∧ w = w' := by
  by_cases h1 : t < 0
  · go_enter Try.func9, Try.ntmps9
    go_wp2
    go_ret2
    exact ⟨rfl, rfl⟩
  by_cases h2 : 62 < t
  · go_enter Try.func9, Try.ntmps9
    go_wp2
    go_ret2
    exact ⟨rfl, rfl⟩
  by_cases h3 : b < 1
  · go_enter Try.func9, Try.ntmps9
    go_wp2
    go_ret2
    exact ⟨rfl, rfl⟩
  by_cases h4 : 4096 < b
  · go_enter Try.func9, Try.ntmps9
    go_wp2
    go_ret2
    exact ⟨rfl, rfl⟩
  by_cases h5 : m < b
  · go_enter Try.func9, Try.ntmps9
    go_wp2
    go_ret2
    exact ⟨rfl, rfl⟩
  by_cases h6 : 4096 < m
  · go_enter Try.func9, Try.ntmps9
    go_wp2
    go_ret2
    exact ⟨rfl, rfl⟩
  have h7 : j < 0 := by omega
  clear h
  go_enter Try.func9, Try.ntmps9
  go_wp2
  go_ret2
  exact ⟨rfl, rfl⟩

set_option maxHeartbeats 1000000 in
theorem rdelay_good (t b m j : Int) (w : World) (h1 : 0 ≤ t) (h2 : t ≤ 62) (h3 : 1 ≤ b) (h4 : b ≤ 4096) (h5 : b ≤ m) (h6 : m ≤ 4096) (h7 : 0 ≤ j) (h8 : j ≤ 9223372036854775807) :
    Calls Try.prog 9 #[.int .i64 t, .int .i64 b, .int .i64 m, .int .i64 j] w fun e w' => e = .returned (.tuple #[.int .i64 (D b m t.toNat - j % (D b m t.toNat / 4 + 1)), .int .i64 0]) ∧ w = w' := by
  have g1 : decide (t < 0) = false := by simp; omega
  have g2 : decide (62 < t) = false := by simp; omega
  have g3 : decide (b < 1) = false := by simp; omega
  have g4 : decide (4096 < b) = false := by simp; omega
  have g5 : decide (m < b) = false := by simp; omega
  have g6 : decide (4096 < m) = false := by simp; omega
  have g7 : decide (j < 0) = false := by simp; omega
  go_enter Try.func9, Try.ntmps9
  go_wp2
  clear g1 g2 g3 g4 g5 g6 g7
  go_loop [10, 11] (fun d i => ∃ k : Nat, k ≤ t.toNat ∧ i = .int .i64 k ∧ d = .int .i64 (R b m k)) (fun _ i => t.toNat - (intOf i).toNat)
  case atStart => exact ⟨0, Nat.zero_le _, rfl, rfl⟩
  case round =>
    obtain ⟨k, hk, rfl, rfl⟩ := hrel
    have hb := R_bd b m h3 h5 k
    obtain ⟨hb1, hb2⟩ := hb
    have hbt := D_bd b m h3 h5 t.toNat
    obtain ⟨hc1, hc2⟩ := hbt
    by_cases hlt : (k : Int) < t
    · by_cases hd : R b m k < m
      · have HD : Hid (R b m (k + 1) = 2 * R b m k) := by
          show R b m (k + 1) = 2 * R b m k
          rw [R, if_pos hd]
        go_wp2
        go_round
        case rel => exact ⟨k + 1, by omega, by go_num, by rw [HD.out]⟩
        case measure => simp [intOf]; omega
      · have HH : Hid (D b m t.toNat = m) := D_top_le b m (by omega) k t.toNat (by omega) ((R_D b m h3 h5 k).2 (by omega))
        have e1 : 0 ≤ j % (m / 4 + 1) := Int.emod_nonneg _ (by omega)
        have e2 : j % (m / 4 + 1) < m / 4 + 1 := Int.emod_lt_of_pos _ (by omega)
        by_cases hm : R b m k = m
        · rw [hm] at hd hb1 hb2 ⊢
          go_wp2
          go_ret2
          rw [HH.out]
          exact ⟨rfl, rfl⟩
        · have hm' : ¬ R b m k ≤ m := by omega
          clear hm
          go_wp2
          go_ret2
          rw [HH.out]
          exact ⟨rfl, rfl⟩
    · have hkt : Hid (t.toNat = k) := by show t.toNat = k; omega
      rw [hkt.out] at hc1 hc2
      by_cases hm : R b m k ≤ m
      · have HH : Hid (D b m k = R b m k) := by
          show D b m k = R b m k
          have := R_min b m h3 h5 k; omega
        have e1 : 0 ≤ j % (R b m k / 4 + 1) := Int.emod_nonneg _ (by omega)
        have e2 : j % (R b m k / 4 + 1) < R b m k / 4 + 1 := Int.emod_lt_of_pos _ (by omega)
        go_wp2
        go_ret2
        rw [hkt.out, HH.out]
        exact ⟨rfl, rfl⟩
      · have HH : Hid (D b m k = m) := by
          show D b m k = m
          have := R_min b m h3 h5 k; omega
        have e1 : 0 ≤ j % (m / 4 + 1) := Int.emod_nonneg _ (by omega)
        have e2 : j % (m / 4 + 1) < m / 4 + 1 := Int.emod_lt_of_pos _ (by omega)
        go_wp2
        go_ret2
        rw [hkt.out, HH.out]
        exact ⟨rfl, rfl⟩

theorem num_any (n : Int) (w : World) : Calls Try.prog 10 #[.int .i64 n] w fun e w' => e = .returned (.int .i64 n) ∧ w = w' := by
  go_enter Try.func10, Try.ntmps10
  go_wp2
  go_ret
  exact ⟨rfl, rfl⟩

theorem delay_at (t b m j v : Int) (w : World) (h1 : 0 ≤ t) (h2 : t ≤ 62) (h3 : 1 ≤ b) (h4 : b ≤ 4096) (h5 : b ≤ m) (h6 : m ≤ 4096) (h7 : 0 ≤ j) (h8 : j ≤ 9223372036854775807) (hv : D b m t.toNat - j % (D b m t.toNat / 4 + 1) = v) :
    Calls Try.prog 8 #[.int .i64 t, .int .i64 b, .int .i64 m, .int .i64 j] w fun e w' => e = .returned (.tuple #[.int .i64 v, .int .i64 0]) ∧ w = w' := by
  subst hv
  exact delay_good t b m j w h1 h2 h3 h4 h5 h6 h7 h8

set_option maxHeartbeats 400000 in
theorem awake_any (w : World) : Calls Try.prog 11 #[] w fun e w' => e = .returned (.bool true) ∧ w = w' := by
  go_enter Try.func11, Try.ntmps11
  go_wp2_with fail
  refine (delay_at 3 2 10 0 10 _ (by decide) (by decide) (by decide) (by decide) (by decide) (by decide) (by decide) (by decide) (by decide)).mono ?_
  rintro e w' ⟨rfl, rfl⟩
  go_wp2_with fail
  refine (delay_at 1 2 10 1 3 _ (by decide) (by decide) (by decide) (by decide) (by decide) (by decide) (by decide) (by decide) (by decide)).mono ?_
  rintro e w' ⟨rfl, rfl⟩
  go_wp2_with fail
  refine (delay_bad (-1) 2 10 0 _ (by decide)).mono ?_
  rintro e w' ⟨rfl, rfl⟩
  go_wp2_with (go_at_call 10; refine (num_any _ _).mono ?_; rintro e w' ⟨rfl, rfl⟩)
  go_ret
  exact ⟨rfl, rfl⟩
end Go.Proofs.Ytnnmjjilpnogkaa

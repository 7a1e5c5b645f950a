/- Contracts of split's functions, as chapter 20 calls them: Ring, may, split.Cut. -/
import Derived.Test.YtjcndeanojeffaaRows
import Derived.Test.YtjcndeanojeffaaBase
import Derived.Test.YtjcndeanojeffaaBase2
import Derived.Test.YtjcndeanojeffaaRegion3
import Derived.Test.YtjcndeanojeffaaCutPlain
import Derived.Lib.Hide
import Derived.Deep.Cut
namespace Go.Proofs.Ytjcndeanojeffaa
open Go.RowKit
open Plain

theorem mixed : Try.prog.follows .mixedOrders = true := by kernel_rfl
theorem info32 : (Try.prog.info? 32).map (fun i => (i.zero, i.size, i.bytes)) = some (some (.agg #[.bool false, .bool false, .int .i64 0, .string ⟨#[]⟩]), 4, 32) := by kernel_rfl

theorem num_any (n : Int) (w : World) : Calls Try.prog 13 #[.int .i64 n] w fun e w' => e = .returned (.int .i64 n) ∧ w = w' := by
  go_enter Try.func13, Try.ntmps13
  go_wp2
  go_ret
  exact ⟨rfl, rfl⟩
theorem ring22 (b : Bool) (w : World) : Calls Try.prog 22 #[.bool b] w fun e w' => e = .returned (.int .i64 (ring b)) ∧ w = w' := by
  cases b
  · go_enter Try.func22, Try.ntmps22
    go_wp2
    go_ret
    exact ⟨rfl, rfl⟩
  · go_enter Try.func22, Try.ntmps22
    go_wp2
    go_ret
    exact ⟨rfl, rfl⟩
/-- is a number one of bytes of a packet? -/
def mayB (n : Int) : Bool := decide (1 ≤ n ∧ n ≤ 1500)
theorem may_any (n : Int) (w : World) : Calls Try.prog 24 #[.int .i64 n] w fun e w' => e = .returned (.bool (mayB n)) ∧ w = w' := by
  by_cases h1 : 1 ≤ n
  · by_cases h2 : n ≤ 1500
    · have h : mayB n = true := by simp [mayB]; omega
      rw [h]
      have d1 : decide (1 ≤ n) = true := by simp; omega
      have d2 : decide (n ≤ 1500) = true := by simp; omega
      clear h
      go_enter Try.func24, Try.ntmps24
      go_wp2
      go_ret
      exact ⟨rfl, rfl⟩
    · have h : mayB n = false := by simp [mayB]; omega
      rw [h]
      have d1 : decide (1 ≤ n) = true := by simp; omega
      have d2 : decide (n ≤ 1500) = false := by simp; omega
      clear h
      go_enter Try.func24, Try.ntmps24
      go_wp2
      go_ret
      exact ⟨rfl, rfl⟩
  · have h : mayB n = false := by simp [mayB]; omega
    rw [h]
    have d1 : decide (1 ≤ n) = false := by simp; omega
    clear h
    go_enter Try.func24, Try.ntmps24
    go_wp2
    go_ret
    exact ⟨rfl, rfl⟩

/-- a row of ints that may be read. -/
def Arr (w : World) (a : Option Addr) (m : Nat) (z : Nat → Int) : Prop :=
  m ≤ 9223372036854775807 ∧ ∀ i, i < m → ∃ b off, a = some ⟨b, off, none⟩ ∧ b < w.heap.size ∧ w.cell? ⟨b, off + i, none⟩ = some (.int .i64 (z i)) ∧ -9223372036854775808 ≤ z i ∧ z i ≤ 9223372036854775807

theorem Arr.only {w w' : World} {a : Option Addr} {m : Nat} {z : Nat → Int} (h : Arr w a m z) (ho : Only [] w w') : Arr w' a m z := by
  refine ⟨h.1, fun i hi => ?_⟩
  obtain ⟨b, off, h1, h2, h3, h4⟩ := h.2 i hi
  exact ⟨b, off, h1, Nat.lt_of_lt_of_le h2 ho.size, (World.cell?_of_block (ho.block b h2 (by simp))).trans h3, h4⟩

/-- what Cut gives. -/
def CutPost (s : ByteArray) (z : Nat → Int) (m : Nat) (q : Int) (short : Bool) (w : World) (e : Ending) (w' : World) : Prop :=
  Only [] w w' ∧ ((Bad s.size z m q short ∧ e = .returned (.tuple #[.slice none 0 0, .int .i64 1800])) ∨
    (¬ Bad s.size z m q short ∧ ∃ n ao cap, n ≤ 64 ∧ Cuts s.size z m n ∧ e = .returned (.tuple #[.slice ao n cap, .int .i64 0]) ∧ Sl w' 32 4 ao n cap (flatF (frs s z m q (ring short) n)) ∧ ∀ k, blk ao = some k → w.heap.size ≤ k))

theorem CutPost.bad {s : ByteArray} {z : Nat → Int} {m : Nat} {q : Int} {short : Bool} {w w' : World} (h : Bad s.size z m q short) (ho : Only [] w w') : CutPost s z m q short w (.returned (.tuple #[.slice none 0 0, .int .i64 1800])) w' := ⟨ho, .inl ⟨h, rfl⟩⟩

theorem ring_pos (b : Bool) : 0 < ring b ∧ ring b ≤ 16777216 := by cases b <;> simp [ring]

set_option maxRecDepth 100000 in
set_option maxHeartbeats 2000000 in
theorem cut_head (s : ByteArray) (a : Option Addr) (m cap : Nat) (z : Nat → Int) (q : Int) (short : Bool) (w : World) (hs : s.size ≤ 9223372036854775807) (hz : Arr w a m z)
    (h : s.size < 1 ∨ 1500 < s.size ∨ m < 1 ∨ 64 < m ∨ q < 0 ∨ ring short ≤ q) :
    Calls Try.prog 21 #[.string s, .slice a m cap, .int .i64 q, .bool short] w (CutPost s z m q short w) := by
  have hB : Bad s.size z m q short := by unfold Bad; omega
  have HP : Hid (CutPost s z m q short w (.returned (.tuple #[.slice none 0 0, .int .i64 1800])) w) := CutPost.bad hB (Only.refl _ _)
  clear hB
  have hm := hz.1
  clear hz
  by_cases h1 : 1 ≤ s.size ∧ s.size ≤ 1500
  · have hmay : mayB (s.size : Int) = true := by simp [mayB]; omega
    by_cases h2 : m < 1
    · have d1 : decide (m < 1) = true := by simp; omega
      clear h
      go_enter Try.func21, Try.ntmps21
      go_wp2_with (first | (go_at_call 22; refine (ring22 _ _).mono ?_; rintro e w' ⟨rfl, rfl⟩) | (go_at_call 24; refine (may_any _ _).mono ?_; rintro e w' ⟨rfl, rfl⟩))
      go_ret2
      exact HP.out
    by_cases h3 : 64 < m
    · clear h
      go_enter Try.func21, Try.ntmps21
      go_wp2_with (first | (go_at_call 22; refine (ring22 _ _).mono ?_; rintro e w' ⟨rfl, rfl⟩) | (go_at_call 24; refine (may_any _ _).mono ?_; rintro e w' ⟨rfl, rfl⟩))
      go_ret2
      exact HP.out
    by_cases h4 : q < 0
    · clear h
      go_enter Try.func21, Try.ntmps21
      go_wp2_with (first | (go_at_call 22; refine (ring22 _ _).mono ?_; rintro e w' ⟨rfl, rfl⟩) | (go_at_call 24; refine (may_any _ _).mono ?_; rintro e w' ⟨rfl, rfl⟩))
      go_ret2
      exact HP.out
    have h5 : ring short ≤ q := by omega
    clear h
    go_enter Try.func21, Try.ntmps21
    go_wp2_with (first | (go_at_call 22; refine (ring22 _ _).mono ?_; rintro e w' ⟨rfl, rfl⟩) | (go_at_call 24; refine (may_any _ _).mono ?_; rintro e w' ⟨rfl, rfl⟩))
    go_ret2
    exact HP.out
  · have hmay : mayB (s.size : Int) = false := by simp [mayB]; omega
    clear h h1
    go_enter Try.func21, Try.ntmps21
    go_wp2_with (first | (go_at_call 22; refine (ring22 _ _).mono ?_; rintro e w' ⟨rfl, rfl⟩) | (go_at_call 24; refine (may_any _ _).mono ?_; rintro e w' ⟨rfl, rfl⟩))
    go_ret2
    exact HP.out

end Go.Proofs.Ytjcndeanojeffaa

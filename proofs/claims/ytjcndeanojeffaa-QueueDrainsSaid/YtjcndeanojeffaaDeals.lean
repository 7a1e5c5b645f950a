/- Chapter 20: what QueueDeals checks, over the model; a row of zeros as a string. -/
import Derived.Test.YtjcndeanojeffaaChk
namespace Go.Proofs.Ytjcndeanojeffaa
namespace Plain
open Go
def zeros (M : Nat) : ByteArray := ⟨(List.replicate M (0 : UInt8)).toArray⟩
theorem zeros_size (M : Nat) : (zeros M).size = M := by simp [zeros, ByteArray.size]
def addsN : Nat → Q → Q
  | 0, S => S
  | n + 1, S => addsN n (S.addS (10 * (n : Int)))
def wantN (K f M i : Int) : Int :=
  if i = f then (if (i - f) % K < M % K then M / K + 1 else M / K) - 1
  else if (i - f) % K < M % K then M / K + 1 else M / K
def chkD (K f M : Nat) : Bool :=
  let S := addsN K (Q.new 1 true)
  okC S && decide (S.submitE (zeros M) = 0) && decide ((S.submitS (zeros M)).takeE (10 * (f : Int)) = 0) &&
    ((List.range K).all fun i => decide ((((S.submitS (zeros M)).takeS (10 * (f : Int))).waits (10 * (i : Int)) : Int) = wantN K f M i)) &&
    ((((S.submitS (zeros M)).takeS (10 * (f : Int))).len == 1) == decide (1 < M))
theorem chk_deals5 : ∀ K : Fin 5, ∀ f : Fin 4, f.val < K.val → ∀ M : Fin 32, chkD K f (M + 1) = true := by decide +kernel
theorem chk_deals {K f M : Nat} (h1 : K ≤ 4) (h2 : f < K) (h3 : 1 ≤ M) (h4 : M ≤ 32) : chkD K f M = true := by
  have h := chk_deals5 ⟨K, by omega⟩ ⟨f, by omega⟩ h2 ⟨M - 1, by omega⟩
  simp only at h
  rwa [show M - 1 + 1 = M by omega] at h
end Plain
open Go.RowKit
open Plain
def rowZ (k : Nat) : Array Value := (List.replicate k (Value.int .u8 0)).toArray
theorem rowZ_made (k : Nat) : madeCells #[Value.int .u8 0] k = rowZ k := by
  apply Array.ext
  · simp [madeCells, rowZ]
  · intro i h1 h2
    simp [madeCells, rowZ, Nat.mod_one]
theorem info5z : (Try.prog.info? 5).map (fun i => (i.zero, i.size, i.bytes)) = some (some (.int .u8 0), 1, 1) := by kernel_rfl
theorem makeZeros (n : Nat) (hn : n ≤ 32) (w : World) : (Instr.makeSlice 30 (.int .i64 n) (.int .i64 n)).run Try.prog w =
    .ok (.slice (some ⟨w.heap.size, 0, none⟩) n n) (w.alloc (.cells (rowZ n) 5)) := by
  obtain ⟨i, hi, hz, hs, hb⟩ := info_parts info5z
  have := run_make (P := Try.prog) w 30 5 i _ Try.underlying30 hi hz .i64 .i64 (n : Int) (n : Int) (by omega) (by omega) (by rw [hb]; omega) (by omega)
  rw [this, hs]
  simp only [Int.toNat_natCast]
  rw [← rowZ_made, Nat.mul_one]
  rfl
theorem conv_zeros (n : Nat) (w : World) : (convert 30 9 (.slice (some ⟨w.heap.size, 0, none⟩) n n)).run Try.prog (w.alloc (.cells (rowZ n) 5)) = .ok (.string (zeros n)) (w.alloc (.cells (rowZ n) 5)) := by
  have := run_convert_bytes_back (P := Try.prog) (w.alloc (.cells (rowZ n) 5)) 30 9 5 ⟨w.heap.size, 0, none⟩ n (List.replicate n (0 : UInt8)) Try.underlying30 Try.underlying5 Try.underlying9 (fun j hj => by
    have h := cell_of (heap_alloc_new' w (.cells (rowZ n) 5)) j
    rw [Addr.add_lit]
    simp only [Nat.zero_add]
    rw [h]
    simp only [List.length_replicate] at hj
    simp [rowZ, hj])
  simp only [List.length_replicate] at this
  exact this
end Go.Proofs.Ytjcndeanojeffaa

/- For MpSeqs: a string as bytes, one of them turned, and back. -/
import Derived.Test.YtdpknandacoibaaAwake
import Derived.Laws.IdiomStrings
namespace Go.Proofs.Ytdpknandacoibaa
open Go.RowKit
open Plain

theorem bytes_of (S : ByteArray) (w : World) : ∃ cap w4, (convert 9 36 (.string S)).run Try.prog w = .ok (.slice (some ⟨w.heap.size, 0, none⟩) S.size cap) w4 ∧ S.size ≤ cap ∧
    (∀ j, j < S.size → w4.cell? ⟨w.heap.size, j, none⟩ = some (.int .u8 (byteAt S j)) ∧ w4.frozen? ⟨w.heap.size, j, none⟩ = false) ∧ Only [] w w4 := by
  refine ⟨_, _, run_bytes_of_string w 9 36 5 S Try.underlying9 Try.underlying36 (by kernel_rfl), grownCap_ge _ _ _ _, fun j hj => ?_, (Only.refl [] w).drew.alloc _⟩
  have hb := heap_alloc_new' w.drew (.cells (bytesRow S (grownCap w S.size 0 5)) 5 ((bytesRow S (grownCap w S.size 0 5)).size, (bytesRow S (grownCap w S.size 0 5)).size + 1))
  have hj' : j < S.data.size := hj
  have hsz : S.size ≤ (bytesRow S (grownCap w S.size 0 5)).size := by unfold bytesRow; simp
  constructor
  · rw [cell_of (g := w.heap.size) hb]
    unfold bytesRow
    rw [Array.getElem?_append_left (by simpa using hj'), Array.getElem?_map, Array.getElem?_eq_getElem hj']
    rw [← byteAt_eq S j hj]
    rfl
  · have : (w.drew.alloc (.cells (bytesRow S (grownCap w S.size 0 5)) 5 ((bytesRow S (grownCap w S.size 0 5)).size, (bytesRow S (grownCap w S.size 0 5)).size + 1))).heap[w.heap.size]? = _ := hb
    simp only [World.frozen?, this]
    simp
    omega

theorem t32 : ∀ n : Fin 256, ∃ m : Fin 256, bits .or .u8 (n.val : Int) 32 = (m.val : Int) ∧ m.val / 16 % 4 ≠ 0 ∧ m.val % 64 ≠ 0 := by decide +kernel
theorem or32 (x : Int) (h : Byte x) : ∃ y, bits .or .u8 x 32 = y ∧ Byte y ∧ y / 16 % 4 ≠ 0 ∧ y % 64 ≠ 0 := by
  obtain ⟨m, rfl⟩ := Int.eq_ofNat_of_zero_le h.lo
  have hm : m < 256 := by have := h.hi; omega
  obtain ⟨⟨k, hk⟩, h1, h2, h3⟩ := t32 ⟨m, hm⟩
  simp only at h1 h2 h3
  exact ⟨k, h1, ⟨by omega, by omega⟩, by omega, by omega⟩

/-- string(b), b's first byte turned. -/
theorem back_of (S : ByteArray) (g cap : Nat) (y : Int) (w : World) (hy : Byte y) (hs : 1 ≤ S.size) (hc : ∀ j, j < S.size → w.cell? ⟨g, j, none⟩ = some (.int .u8 (byteAt S j)) ∧ w.frozen? ⟨g, j, none⟩ = false) :
    ∃ T : ByteArray, (convert 36 9 (.slice (some ⟨g, 0, none⟩) S.size cap)).run Try.prog (w.setCell ⟨g, 0, none⟩ (.int .u8 y)) = .ok (.string T) (w.setCell ⟨g, 0, none⟩ (.int .u8 y)) ∧ T.size = S.size ∧ byteAt T 0 = y := by
  let xs : List Int := y :: (List.range (S.size - 1)).map fun i => byteAt S (i + 1)
  have hl : xs.length = S.size := by simp [xs]; omega
  refine ⟨strOfNums xs, run_convert_bytes_arg _ 36 5 Try.underlying36 (by kernel_rfl) g 0 S.size cap xs hl (fun j hj => ?_) 9 Try.underlying9, by rw [strOfNums_size]; exact hl, ?_⟩
  · rw [Nat.zero_add]
    cases j with
    | zero => rw [World.cell?_setCell_same _ _ _ (hc 0 (by omega)).1]; rfl
    | succ j =>
      rw [World.cell?_setCell_other _ _ _ _ (by intro h; injection h with _ h _; omega), (hc (j + 1) hj).1]
      have : xs.getD (j + 1) 0 = byteAt S (j + 1) := by
        simp only [xs, List.getD_cons_succ]
        rw [List.getD_eq_getElem?_getD, List.getElem?_map, List.getElem?_range (by omega)]
        rfl
      rw [this]
  · unfold byteAt
    rw [strOfNums_data]
    show ((UInt8.ofNat y.toNat).toNat : Int) = y
    rw [UInt8.toNat_ofNat']
    have := hy.lo
    have := hy.hi
    omega
end Go.Proofs.Ytdpknandacoibaa

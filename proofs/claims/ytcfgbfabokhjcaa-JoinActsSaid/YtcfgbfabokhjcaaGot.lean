/- Chapter 19: what was got; the check of JoinGap. -/
import Derived.Test.YtcfgbfabokhjcaaDec
namespace Go.Proofs.Ytcfgbfabokhjcaa
namespace Plain
open Go
/-- so many links, 0 and on. -/
def addN : Nat → J → J
  | 0, S => S
  | n + 1, S => addS (addN n S) n
def gapL (k g : Nat) : List ByteArray := ((List.range (12 + k)).filter (fun j => j != g)).map dec
def chkG (k g : Nat) : Nat → J → List ByteArray → Nat → Bool
  | 0, S, got, _ => decide (got = gapL k g) && decide (S.held.length = 0)
  | n + 1, S, got, t => if t = g then chkG k g n S got (t + 1) else
      okS S && decide (putE S (t % k : Nat) (wholeF t (dec t)) = 0) && chkG k g n (putS S (t % k : Nat) (wholeF t (dec t))) (got ++ putO S (t % k : Nat) (wholeF t (dec t))) (t + 1)
theorem chk_gap : ∀ k : Fin 4, ∀ g : Fin 10, chkG (k.val + 1) g.val (13 + k.val) (addN (k.val + 1) (J.new true 64)) [] 0 = true := by decide +kernel
theorem gap_get : ∀ k : Fin 4, ∀ g : Fin 10, (gapL (k.val + 1) g.val).length = 12 + k.val ∧ ∀ t : Fin 16, t.val < 12 + k.val → (gapL (k.val + 1) g.val)[t.val]? = some (dec (if t.val < g.val then t.val else t.val + 1)) := by decide +kernel
theorem add_codes (k : Nat) (hk : k ≤ 8) : ∀ j, j < k → addE (addN j (J.new true 64)) j = 0 := by
  have : ∀ j : Fin 8, addE (addN j.val (J.new true 64)) j.val = 0 := by decide +kernel
  intro j hj
  exact this ⟨j, by omega⟩
end Plain
open Go.RowKit
open Plain
/-- what was got, in memory; its block is none of the reassembly's. -/
def Got (w : World) (B p bl bh : Nat) (ao : Option Addr) (cap : Nat) (got : List ByteArray) : Prop :=
  Sl w 9 1 ao got.length cap (got.map Value.string) ∧ ∀ k, blk ao = some k → B ≤ k ∧ k ∉ [p, bl, bh]
theorem Got.nil (w : World) (B p bl bh : Nat) : Got w B p bl bh none 0 [] := ⟨Sl.nil _ _ _, by simp [blk]⟩
theorem Got.only {S : List Nat} {w w' : World} {B p bl bh : Nat} {ao : Option Addr} {cap : Nat} {got : List ByteArray} (h : Got w B p bl bh ao cap got) (ho : Only S w w') (hS : ∀ k ∈ S, k < B ∨ k ∈ [p, bl, bh]) : Got w' B p bl bh ao cap got := by
  refine ⟨h.1.only ho (fun k hk hm => ?_), h.2⟩
  obtain ⟨h1, h2⟩ := h.2 k hk
  rcases hS k hm with h3 | h3
  · omega
  · exact h2 h3
theorem Got.app {w w' : World} {B p bl bh : Nat} {ao ao' : Option Addr} {cap cap' : Nat} {got out : List ByteArray} (h : Got w B p bl bh ao cap got) (hB : B ≤ w.heap.size) (hl : p < w.heap.size ∧ bl < w.heap.size ∧ bh < w.heap.size)
    (hs : Sl w' 9 1 ao' (got.length + out.length) cap' (got.map Value.string ++ out.map Value.string)) (hg : w.grownBy w' (blk ao)) (hb : blk ao' = blk ao ∨ blk ao' = some w.heap.size) :
    Got w' B p bl bh ao' cap' (got ++ out) ∧ Only (match blk ao with | some k => [k] | none => []) w w' := by
  refine ⟨⟨?_, ?_⟩, Only.of_grown hg (fun k hk => by rw [hk]; simp)⟩
  · rw [List.length_append, List.map_append]
    exact hs
  · intro k hk
    rcases hb with e | e
    · exact h.2 k (e.symm.trans hk)
    · rw [e] at hk
      simp at hk
      subst hk
      exact ⟨hB, by simp; omega⟩
theorem Got.src {w : World} {B p bl bh : Nat} {ao : Option Addr} {cap : Nat} {got : List ByteArray} (h : Got w B p bl bh ao cap got) : Src w 1 ao got.length (got.map Value.string) := h.1.src (fun u hu => by obtain ⟨b, _, rfl⟩ := List.mem_map.1 hu; rfl)
theorem str_src {w : World} {ao : Option Addr} {cap n : Nat} {xs : List ByteArray} (h : Sl w 9 1 ao n cap (xs.map Value.string)) : Src w 1 ao n (xs.map Value.string) := h.src (fun u hu => by obtain ⟨b, _, rfl⟩ := List.mem_map.1 hu; rfl)
end Go.Proofs.Ytcfgbfabokhjcaa

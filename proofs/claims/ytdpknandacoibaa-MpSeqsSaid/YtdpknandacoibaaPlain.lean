/- The plain mathematics of chapter 8: a fragment as bytes. No program in sight. -/
import Derived.WalkKit
import Derived.Laws.BytesArg
namespace Go.Proofs.Ytdpknandacoibaa
namespace Plain
open Go

def ring (short : Bool) : Int := if short then 4096 else 16777216
def hd (b e : Bool) : Int := (if b then 128 else 0) + (if e then 64 else 0)

theorem or_add (k : Nat) (x y : Int) (hx : 0 ≤ x) (hd : x % (2:Int) ^ k = 0) (hy : 0 ≤ y) (hlt : y < (2:Int) ^ k) (hx63 : x < 4611686018427387904) (hk : k ≤ 62) : bits .or .i64 x y = x + y := by
  obtain ⟨m, rfl⟩ := Int.eq_ofNat_of_zero_le hx
  obtain ⟨n, rfl⟩ := Int.eq_ofNat_of_zero_le hy
  have hp : ((2 ^ k : Nat) : Int) = (2:Int) ^ k := by simp
  rw [← hp] at hd hlt
  have hn : n < 2 ^ k := by omega
  have hm : m % 2 ^ k = 0 := by
    have : ((m % 2 ^ k : Nat) : Int) = 0 := by rw [Int.natCast_emod]; exact hd
    omega
  have h62 : 2 ^ k ≤ 2 ^ 62 := Nat.pow_le_pow_right (by omega) hk
  have hq : m = 2 ^ k * (m / 2 ^ k) := by have := Nat.div_add_mod m (2 ^ k); omega
  have hor : m ||| n = m + n := by
    rw [hq, ← Nat.two_pow_add_eq_or_of_lt hn]
  unfold bits
  have e1 : (BitVec.ofInt IntKind.i64.bits (m : Int)).toNat = m := by
    rw [BitVec.ofInt_natCast, BitVec.toNat_ofNat]; apply Nat.mod_eq_of_lt; show m < 2 ^ 64; omega
  have e2 : (BitVec.ofInt IntKind.i64.bits (n : Int)).toNat = n := by
    rw [BitVec.ofInt_natCast, BitVec.toNat_ofNat]; apply Nat.mod_eq_of_lt; show n < 2 ^ 64; omega
  show IntKind.i64.wrap _ = _
  have e3 : ((BitVec.ofInt IntKind.i64.bits (m : Int)) ||| (BitVec.ofInt IntKind.i64.bits (n : Int))).toNat = m + n := by
    rw [BitVec.toNat_or, e1, e2, hor]
  rw [e3]
  have := IntWalk.i64_in ((m + n : Nat) : Int) (by omega)
  rw [this]; omega

/-- a head's bytes. -/
def head (b e : Bool) (q : Int) (short : Bool) : List Int := if short then [hd b e + q / 256, q % 256] else [hd b e, q / 65536, q / 256 % 256, q % 256]
def bytesOf (b e : Bool) (q : Int) (d : ByteArray) (short : Bool) : ByteArray := strOfNums (head b e q short) ++ d

end Plain
end Go.Proofs.Ytdpknandacoibaa

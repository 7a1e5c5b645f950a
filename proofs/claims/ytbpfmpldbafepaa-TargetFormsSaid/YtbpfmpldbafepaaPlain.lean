/- The plain mathematics of chapter 24: configs, and how many links a load asks for. No program in sight. -/
import Derived.WalkKit
namespace Go.Proofs.Ytbpfmpldbafepaa
namespace Plain
open Go

structure Cfg where
  ports : Int
  links : Int
  least : Int
  rate : Int
  window : Int
  high : Int
  low : Int
  hold : Int
  base : Int
  cap : Int
  restart : Int
  tries : Int
  short : Bool
  sa : ByteArray
  sb : ByteArray
  ex : ByteArray
  ma : Int
  mb : Int

def inB (x a b : Int) : Bool := decide (a ≤ x ∧ x ≤ b)
def shapeB (rate least links : Int) : Bool := inB rate 64 4096 && inB links 1 6 && inB least 1 links
def meterB (window high low hold : Int) : Bool := decide (1 ≤ window ∧ window ≤ 32 ∧ 1 ≤ high ∧ high ≤ 1000 ∧ 0 ≤ low ∧ low < high ∧ 1 ≤ hold ∧ hold ≤ 4096)
def secB (s : ByteArray) : Bool := inB s.size 1 64
def magB (x : Int) : Bool := decide (1 ≤ x ∧ x ≤ 4294967295)

def linksB (c : Cfg) : Bool := inB c.ports 1 8 && decide (c.links ≤ c.ports) && shapeB c.rate c.least c.links
def metersB (c : Cfg) : Bool := inB c.window 1 64 && meterB 1 c.high c.low c.hold && decide (c.hold ≤ 64)
def timersB (c : Cfg) : Bool := inB c.base 1 c.cap && decide (c.cap ≤ 64) && inB c.restart 2 16 && inB c.tries 2 10
def magicsB (c : Cfg) : Bool := inB c.ma 1 4294967295 && inB c.mb 1 4294967295 && (c.ma != c.mb)
def mayB (c : Cfg) : Bool := linksB c && metersB c && timersB c && magicsB c && secB c.sa && secB c.sb && secB c.ex

/-- all of it, as one proposition. -/
def MayP (c : Cfg) : Prop :=
  1 ≤ c.ports ∧ c.ports ≤ 8 ∧ c.links ≤ c.ports ∧ 64 ≤ c.rate ∧ c.rate ≤ 4096 ∧ 1 ≤ c.links ∧ c.links ≤ 6 ∧ 1 ≤ c.least ∧ c.least ≤ c.links ∧ 1 ≤ c.window ∧ c.window ≤ 64 ∧ 1 ≤ c.high ∧ c.high ≤ 1000 ∧ 0 ≤ c.low ∧ c.low < c.high ∧ 1 ≤ c.hold ∧ c.hold ≤ 64 ∧
  1 ≤ c.base ∧ c.base ≤ c.cap ∧ c.cap ≤ 64 ∧ 2 ≤ c.restart ∧ c.restart ≤ 16 ∧ 2 ≤ c.tries ∧ c.tries ≤ 10 ∧ 1 ≤ c.ma ∧ c.ma ≤ 4294967295 ∧ 1 ≤ c.mb ∧ c.mb ≤ 4294967295 ∧ c.ma ≠ c.mb ∧
  1 ≤ c.sa.size ∧ c.sa.size ≤ 64 ∧ 1 ≤ c.sb.size ∧ c.sb.size ≤ 64 ∧ 1 ≤ c.ex.size ∧ c.ex.size ≤ 64

theorem mayB_iff (c : Cfg) : mayB c = true ↔ MayP c := by
  simp only [mayB, linksB, metersB, timersB, magicsB, shapeB, meterB, secB, inB, MayP, Bool.and_eq_true, decide_eq_true_eq, bne_iff_ne]
  constructor
  · rintro ⟨⟨⟨⟨⟨⟨h1, h2⟩, h3⟩, h4⟩, h5⟩, h6⟩, h7⟩
    obtain ⟨⟨_, _⟩, h4⟩ := h4
    refine ⟨?_, ?_, ?_, ?_, ?_, ?_, ?_, ?_, ?_, ?_, ?_, ?_, ?_, ?_, ?_, ?_, ?_, ?_, ?_, ?_, ?_, ?_, ?_, ?_, ?_, ?_, ?_, ?_, h4, ?_, ?_, ?_, ?_, ?_, ?_⟩ <;> omega
  · rintro ⟨_, _, _, _, _, _, _, _, _, _, _, _, _, _, _, _, _, _, _, _, _, _, _, _, _, _, _, _, h, _, _, _, _, _, _⟩
    refine ⟨⟨⟨⟨⟨⟨?_, ?_⟩, ?_⟩, ⟨?_, h⟩⟩, ?_⟩, ?_⟩, ?_⟩ <;> omega

def rSizeB (c : Cfg) : Bool := decide (1 ≤ c.ports) && decide (c.ports ≤ 8) && decide (1 ≤ c.links) && decide (c.links ≤ min c.ports 6) && decide (1 ≤ c.least) && decide (c.least ≤ c.links) && decide (64 ≤ c.rate) && decide (c.rate ≤ 4096) && decide (1 ≤ c.window) && decide (c.window ≤ 64)
def rShareB (c : Cfg) : Bool := decide (1 ≤ c.high) && decide (c.high ≤ 1000) && decide (0 ≤ c.low) && decide (c.low < c.high) && decide (1 ≤ c.hold) && decide (c.hold ≤ 64)
def rTimeB (c : Cfg) : Bool := decide (1 ≤ c.base) && decide (c.base ≤ c.cap) && decide (c.cap ≤ 64) && decide (2 ≤ c.restart) && decide (c.restart ≤ 16) && decide (2 ≤ c.tries) && decide (c.tries ≤ 10)
def rSecB (c : Cfg) : Bool := secB c.sa && secB c.sb && secB c.ex
def rMayB (c : Cfg) : Bool := rSizeB c && rShareB c && rTimeB c && rSecB c && magB c.ma && magB c.mb && (c.ma != c.mb)

theorem rMayB_iff (c : Cfg) : rMayB c = true ↔ MayP c := by
  simp only [rMayB, rSizeB, rShareB, rTimeB, rSecB, magB, secB, inB, MayP, Bool.and_eq_true, decide_eq_true_eq, bne_iff_ne]
  constructor
  · rintro ⟨⟨⟨⟨⟨⟨h1, h2⟩, h3⟩, h4⟩, h5⟩, h6⟩, h7⟩
    refine ⟨?_, ?_, ?_, ?_, ?_, ?_, ?_, ?_, ?_, ?_, ?_, ?_, ?_, ?_, ?_, ?_, ?_, ?_, ?_, ?_, ?_, ?_, ?_, ?_, ?_, ?_, ?_, ?_, h7, ?_, ?_, ?_, ?_, ?_, ?_⟩ <;> omega
  · rintro ⟨_, _, _, _, _, _, _, _, _, _, _, _, _, _, _, _, _, _, _, _, _, _, _, _, _, _, _, _, h, _, _, _, _, _, _⟩
    refine ⟨⟨⟨⟨⟨⟨?_, ?_⟩, ?_⟩, ?_⟩, ?_⟩, ?_⟩, h⟩ <;> omega

theorem rMayB_eq (c : Cfg) : rMayB c = mayB c := by
  rw [Bool.eq_iff_iff, rMayB_iff, mayB_iff]

/-- how many links. -/
def cnt (load rate least links : Int) : Int := min (max ((load + rate - 1) / rate) least) links

theorem ceil_eq (load rate : Int) (h1 : 0 ≤ load) (h2 : 0 < rate) : (load + rate - 1) / rate = load / rate + if 0 < load % rate then 1 else 0 := by
  have e := Int.mul_ediv_add_emod load rate
  have m0 := Int.emod_nonneg load (show rate ≠ 0 by omega)
  have m1 := Int.emod_lt_of_pos load h2
  split
  · rename_i h
    rw [show load + rate - 1 = (load % rate - 1) + (load / rate + 1) * rate by rw [Int.add_mul, Int.mul_comm (load / rate)]; omega, Int.add_mul_ediv_right _ _ (by omega), Int.ediv_eq_zero_of_lt (by omega) (by omega)]
    omega
  · rename_i h
    rw [show load + rate - 1 = (rate - 1) + (load / rate) * rate by rw [Int.mul_comm (load / rate)]; omega, Int.add_mul_ediv_right _ _ (by omega), Int.ediv_eq_zero_of_lt (by omega) (by omega)]
    omega

end Plain
end Go.Proofs.Ytbpfmpldbafepaa

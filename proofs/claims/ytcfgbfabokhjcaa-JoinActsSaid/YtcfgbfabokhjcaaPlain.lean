/- The plain mathematics of chapter 19: a reassembly. No program in sight. -/
import Derived.WalkKit
namespace Go.Proofs.Ytcfgbfabokhjcaa
namespace Plain
open Go

/-- a fragment. -/
structure Fr where
  b : Bool
  e : Bool
  q : Int
  d : ByteArray
def zeroF : Fr := ⟨false, false, 0, ⟨#[]⟩⟩

def ring (short : Bool) : Int := if short then 4096 else 16777216
def IsRing (R : Int) : Prop := R = 4096 ∨ R = 16777216
theorem ring_is (short : Bool) : IsRing (ring short) := by cases short <;> simp [ring, IsRing]

/-- how far q is behind n in a ring. -/
def off (R n q : Int) : Int := (q - n) % R
/-- .. or ahead of it. -/
def sgn (R n q : Int) : Int := if R / 2 ≤ off R n q then off R n q - R else off R n q
/-- the number of an offset. -/
def pos (R n i : Int) : Int := (n + i) % R

theorem off_bd {R n q : Int} (h : IsRing R) : 0 ≤ off R n q ∧ off R n q < R := by
  unfold off
  rcases h with rfl | rfl <;> omega
theorem pos_bd {R n q : Int} (h : IsRing R) : 0 ≤ pos R n q ∧ pos R n q < R := by
  unfold pos
  rcases h with rfl | rfl <;> omega
theorem off_pos {R n i : Int} (h : IsRing R) (h0 : 0 ≤ i) (h1 : i < R) : off R n (pos R n i) = i := by
  unfold off pos
  rcases h with rfl | rfl <;> omega
theorem pos_off {R n q : Int} (h : IsRing R) (h0 : 0 ≤ q) (h1 : q < R) : pos R n (off R n q) = q := by
  unfold off pos
  rcases h with rfl | rfl <;> omega
theorem off_zero {R n q : Int} (h : IsRing R) (h0 : 0 ≤ q) (h1 : q < R) (n0 : 0 ≤ n) (n1 : n < R) : off R n q = 0 ↔ q = n := by
  unfold off
  rcases h with rfl | rfl <;> omega
theorem pos_zero {R n : Int} (n0 : 0 ≤ n) (n1 : n < R) : pos R n 0 = n := by
  unfold pos
  rw [Int.add_zero]
  exact Int.emod_eq_of_lt n0 n1
theorem off_inj {R n q q' : Int} (h : IsRing R) (h0 : 0 ≤ q) (h1 : q < R) (h0' : 0 ≤ q') (h1' : q' < R) (e : off R n q = off R n q') : q = q' := by
  rw [← pos_off h h0 h1 (n := n), e, pos_off h h0' h1']
theorem sgn_bd {R n q : Int} (h : IsRing R) : -(R / 2) ≤ sgn R n q ∧ sgn R n q < R / 2 := by
  have := off_bd (n := n) (q := q) h
  unfold sgn
  rcases h with rfl | rfl <;> split <;> omega
theorem pos_pos {R n i j : Int} (h : IsRing R) : pos R (pos R n i) j = pos R n (i + j) := by
  unfold pos
  rcases h with rfl | rfl <;> omega

/-! in Go's words -/
theorem go_off {R n q : Int} (h : IsRing R) (h0 : 0 ≤ q) (h1 : q < R) (_n0 : 0 ≤ n) (n1 : n < R) : ((q - n).tmod R + R).tmod R = off R n q := by
  unfold off
  by_cases hq : 0 ≤ q - n
  · rw [Int.tmod_eq_emod_of_nonneg hq]
    rcases h with rfl | rfl <;> (rw [Int.tmod_eq_emod_of_nonneg (by omega)]; omega)
  · have e : (q - n).tmod R = q - n := by
      have h2 : (n - q).tmod R = n - q := by
        rw [Int.tmod_eq_emod_of_nonneg (by omega)]
        exact Int.emod_eq_of_lt (by omega) (by omega)
      have h3 : (q - n).tmod R = -((n - q).tmod R) := by rw [← Int.neg_tmod]; congr 1; omega
      rw [h3, h2]; omega
    rw [e, Int.tmod_eq_emod_of_nonneg (by omega)]
    rcases h with rfl | rfl <;> omega
theorem go_off_bd {R n q : Int} (h : IsRing R) (_h0 : 0 ≤ q) (h1 : q < R) (_n0 : 0 ≤ n) (n1 : n < R) : -16777216 < (q - n).tmod R ∧ (q - n).tmod R < 16777216 := by
  rcases h with rfl | rfl
  · have := Int.tmod_lt_of_pos (q - n) (show (0:Int) < 4096 by omega)
    have := Int.lt_tmod_of_pos (q - n) (show (0:Int) < 4096 by omega)
    omega
  · have := Int.tmod_lt_of_pos (q - n) (show (0:Int) < 16777216 by omega)
    have := Int.lt_tmod_of_pos (q - n) (show (0:Int) < 16777216 by omega)
    omega

/-! A reassembly. -/
structure J where
  R : Int
  next : Int
  short : Bool
  most : Int
  links : List (Int × Int)
  held : List Fr
  lost : Int

def J.get (S : J) (q : Int) : Option Fr := S.held.find? fun f => f.q == q
/-- up to where what is missing is lost; -1: nothing is. -/
def uptoL (R n : Int) (links : List (Int × Int)) : Int :=
  if links.any (fun p => decide (p.2 < 0)) then -1 else
    let m := (links.map fun p => sgn R n p.2).foldl min R
    if m = R then -1 else m
def J.upto (S : J) : Int := uptoL S.R S.next S.links
def leastL (R n : Int) (held : List Fr) : Int := (held.map fun f => off R n f.q).foldl min R
def J.least (S : J) : Int := leastL S.R S.next S.held
/-- what lies from an offset on. -/
def fromL (R n k : Int) (held : List Fr) : List Fr := held.filter fun f => decide (k ≤ off R n f.q)
/-- the first are let go, up to an offset. -/
def J.letGo (S : J) (k : Int) : J := { S with held := fromL S.R S.next k S.held, lost := S.lost + (S.held.length - (fromL S.R S.next k S.held).length : Nat), next := pos S.R S.next k }
/-- .. or told. -/
def J.tell (S : J) (k : Int) : J := { S with held := fromL S.R S.next k S.held, next := pos S.R S.next k }

/-- the packet that begins next: its bytes, how far it goes, is it whole? -/
def J.scan (S : J) : Nat → Nat → List UInt8 → List UInt8 × Nat × Bool
  | 0, i, _ => ([], i, false)
  | fuel + 1, i, d =>
    match S.get (pos S.R S.next i) with
    | none => ([], i, false)
    | some f => if i > 0 ∧ f.b = true then ([], i, false) else if f.e = true then (d ++ f.d.data.toList, i + 1, true) else S.scan fuel (i + 1) (d ++ f.d.data.toList)

/-- what the first one comes to: what is told, does it go on? -/
def J.first (S : J) (f : Fr) (m : Int) : J × Option ByteArray × Bool :=
  if f.b = false then (S.letGo 1, none, true) else
    let r := S.scan (S.held.length + 1) 0 []
    if r.2.2 = true then (S.tell r.2.1, some ⟨r.1.toArray⟩, true)
    else if (S.get (pos S.R S.next r.2.1)).isSome = true then (S.letGo r.2.1, none, true)
    else if (r.2.1 : Int) ≤ m then (S.letGo (r.2.1 + 1), none, true)
    else (S, none, false)

/-- one step: none: it waits. -/
def J.step (S : J) : Option (J × Option ByteArray) :=
  match S.get S.next with
  | some f => let r := S.first f S.upto; if r.2.2 = true then some (r.1, r.2.1) else none
  | none => if 0 ≤ S.upto then some ({ S with next := pos S.R S.next (min (S.upto + 1) S.least) }, none) else none

/-- on, till it waits. -/
def J.runF : Nat → J → J × List ByteArray
  | 0, S => (S, [])
  | fuel + 1, S =>
    match S.step with
    | some (T, o) => let r := J.runF fuel T; (r.1, o.toList ++ r.2)
    | none => if (S.held.length : Int) ≤ S.most then (S, []) else J.runF fuel (S.letGo (S.least + 1))

/-- how long it can go on. -/
def J.mu (S : J) : Nat := 2 * S.held.length + (if (S.get S.next).isSome = true then 0 else if 0 ≤ S.upto then 1 else 0)
def J.run (S : J) : J × List ByteArray := J.runF (S.mu + 1) S

def lookI (l : List (Int × Int)) (q : Int) : Option Int := (l.find? fun p => p.1 == q).map (·.2)
def J.has (S : J) (link : Int) : Bool := (lookI S.links link).isSome
def mayF (short : Bool) (f : Fr) : Bool := decide (0 ≤ f.q ∧ f.q < ring short ∧ f.d.size ≤ 2048)
def updI (l : List (Int × Int)) (q x : Int) : List (Int × Int) := l.map fun p => if p.1 = q then (q, x) else p
/-- a fragment is laid in. -/
def J.lay (S : J) (link : Int) (f : Fr) : J :=
  let T := { S with links := updI S.links link f.q }
  if (T.get f.q).isSome = true ∨ T.R / 2 ≤ off T.R T.next f.q then { T with lost := T.lost + 1 } else { T with held := T.held ++ [f] }
def J.put (S : J) (link : Int) (f : Fr) : J × List ByteArray := (S.lay link f).run

def J.new (short : Bool) (most : Int) : J := ⟨ring short, 0, short, most, [], [], 0⟩

/-- what every reassembly is. -/
structure J.Ok (S : J) : Prop where
  ring : S.R = Plain.ring S.short
  next0 : 0 ≤ S.next
  next1 : S.next < S.R
  most0 : 1 ≤ S.most
  most1 : S.most ≤ 128
  nodup : (S.held.map (·.q)).Nodup
  frag : ∀ f ∈ S.held, 0 ≤ f.q ∧ f.q < S.R ∧ f.d.size ≤ 2048
  lnodup : (S.links.map (·.1)).Nodup
  link : ∀ p ∈ S.links, 0 ≤ p.1 ∧ p.1 ≤ 9223372036854775807 ∧ -1 ≤ p.2 ∧ p.2 < S.R
  links8 : S.links.length ≤ 8
  count : S.held.length ≤ 129
  lost0 : 0 ≤ S.lost
  lost1 : S.lost + S.held.length ≤ 1099511627776

theorem J.Ok.isRing {S : J} (h : S.Ok) : IsRing S.R := by rw [h.ring]; exact ring_is _
theorem J.Ok.r0 {S : J} (h : S.Ok) : 4096 ≤ S.R ∧ S.R ≤ 16777216 := by rcases h.isRing with e | e <;> omega

end Plain
end Go.Proofs.Ytcfgbfabokhjcaa

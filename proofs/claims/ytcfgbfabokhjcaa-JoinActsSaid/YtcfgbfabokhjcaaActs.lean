/- Chapter 19: a slice of acts that came in. -/
import Derived.Test.YtcfgbfabokhjcaaRPut
import Derived.Deep.Slices
import Derived.OpenShut
namespace Go.Proofs.Ytcfgbfabokhjcaa
open Go.ChangeShapes Go.WideShapes Go.RowKit Go.Deep
open Plain
/-- an act: its cells at an address. -/
def ActAt (w : World) (a : Addr) : Prop :=
  ∃ (kd ln : Int) (f : Fr), w.cell? (a.add 0) = some (.int .i64 kd) ∧ w.cell? (a.add 1) = some (.int .i64 ln) ∧ w.cell? (a.add 2) = some (.bool f.b) ∧ w.cell? (a.add 3) = some (.bool f.e) ∧ w.cell? (a.add 4) = some (.int .i64 f.q) ∧ w.cell? (a.add 5) = some (.string f.d) ∧ -9223372036854775808 ≤ ln ∧ ln ≤ 9223372036854775807
def ActRow (w : World) (a : Option Addr) (len : Nat) : Prop :=
  (a = none ∧ len = 0) ∨ ∃ x : Addr, a = some x ∧ len ≤ maxLen ∧ ∀ i, i < len → ActAt w (x.add (i * 6))
theorem cells35 : Try.prog.cellsOf 35 = 6 := by kernel_rfl
theorem cells33 : Try.prog.cellsOf 33 = 4 := by kernel_rfl
theorem cells3 : Try.prog.cellsOf 3 = 1 := by kernel_rfl
theorem cells4 : Try.prog.cellsOf 4 = 1 := by kernel_rfl
theorem cells9 : Try.prog.cellsOf 9 = 1 := by kernel_rfl
section
variable {H : Type} {enc : TypeId × Value → H} {w : World} {base : Nat} {spare : Nat → Bool} {held : Bool}
theorem open_fr {n : Nat} {cs : List Value} {y : DataW H × List MemPlace} (h : DataW.trod enc Try.prog w base spare held n 33 cs = some y) : ∃ f : Fr, cs = [.bool f.b, .bool f.e, .int .i64 f.q, .string f.d] := by
  obtain ⟨xs, n', _, _, hl, hlen, hg⟩ := DataW.trod_struct Try.underlying33 h
  rw [cells33] at hl
  match cs, hl with
  | [c0, c1, c2, c3], _ =>
    have g0 : DataW.trod enc Try.prog w base spare held n' 4 (([c0, c1, c2, c3].drop 0).take (Try.prog.cellsOf 4)) = xs[0]? := hg 0 _ rfl
    have g1 : DataW.trod enc Try.prog w base spare held n' 4 (([c0, c1, c2, c3].drop 1).take (Try.prog.cellsOf 4)) = xs[1]? := hg 1 _ rfl
    have g2 : DataW.trod enc Try.prog w base spare held n' 3 (([c0, c1, c2, c3].drop 2).take (Try.prog.cellsOf 3)) = xs[2]? := hg 2 _ rfl
    have g3 : DataW.trod enc Try.prog w base spare held n' 9 (([c0, c1, c2, c3].drop 3).take (Try.prog.cellsOf 9)) = xs[3]? := hg 3 _ rfl
    simp only [cells3, cells4, cells9, List.drop_zero, List.drop_succ_cons, List.take_succ_cons, List.take_zero] at g0 g1 g2 g3
    have hs : xs.length = 4 := hlen
    rw [List.getElem?_eq_getElem (by omega)] at g0 g1 g2 g3
    obtain ⟨x0, e0, _⟩ := DataW.trod_bool Try.underlying4 g0
    obtain ⟨x1, e1, _⟩ := DataW.trod_bool Try.underlying4 g1
    obtain ⟨x2, e2, _⟩ := DataW.trod_int Try.underlying3 g2
    obtain ⟨x3, e3, _⟩ := DataW.trod_string Try.underlying9 g3
    cases e0
    cases e1
    cases e2
    cases e3
    exact ⟨⟨x0, x1, x2, x3⟩, rfl⟩
theorem open_act {n : Nat} {cs : List Value} {y : DataW H × List MemPlace} (h : DataW.trod enc Try.prog w base spare held n 35 cs = some y) : ∃ (kd ln : Int) (f : Fr), cs = [.int .i64 kd, .int .i64 ln, .bool f.b, .bool f.e, .int .i64 f.q, .string f.d] ∧ (Lit.int .i64 ln).wf = true := by
  obtain ⟨xs, n', _, _, hl, hlen, hg⟩ := DataW.trod_struct Try.underlying35 h
  rw [cells35] at hl
  match cs, hl with
  | [c0, c1, c2, c3, c4, c5], _ =>
    have g0 : DataW.trod enc Try.prog w base spare held n' 3 (([c0, c1, c2, c3, c4, c5].drop 0).take (Try.prog.cellsOf 3)) = xs[0]? := hg 0 _ rfl
    have g1 : DataW.trod enc Try.prog w base spare held n' 3 (([c0, c1, c2, c3, c4, c5].drop 1).take (Try.prog.cellsOf 3)) = xs[1]? := hg 1 _ rfl
    have g2 : DataW.trod enc Try.prog w base spare held n' 33 (([c0, c1, c2, c3, c4, c5].drop 2).take (Try.prog.cellsOf 33)) = xs[2]? := hg 2 _ rfl
    simp only [cells3, cells33, List.drop_zero, List.drop_succ_cons, List.take_succ_cons, List.take_zero] at g0 g1 g2
    have hs : xs.length = 3 := hlen
    rw [List.getElem?_eq_getElem (by omega)] at g0 g1 g2
    obtain ⟨x0, e0, _⟩ := DataW.trod_int Try.underlying3 g0
    obtain ⟨x1, e1, _, w1⟩ := DataW.trod_int Try.underlying3 g1
    obtain ⟨f, e2⟩ := open_fr g2
    cases e0
    cases e1
    cases e2
    exact ⟨x0, x1, f, rfl, w1⟩
theorem open_acts {fuel : Nat} {a : Option Addr} {len cap : Nat} {x : DataW H × List MemPlace} (h : DataW.trod enc Try.prog w base spare held fuel 22 [.slice a len cap] = some x) : ActRow w a len := by
  rcases open_slice Try.underlying22 h with ⟨e, _⟩ | ⟨a', l, c, m, n, D, Pl, e, _, hl, hm, hmm, _, hc⟩
  · cases e
    exact .inl ⟨rfl, rfl⟩
  · cases e
    refine .inr ⟨a', rfl, Nat.le_trans hl hm, fun i hi => ?_⟩
    obtain ⟨cs', h1, h2⟩ := hc i (by rw [hmm]; split <;> omega)
    obtain ⟨kd, ln, f, rfl, w1⟩ := open_act h2
    rw [cells35] at h1
    obtain ⟨_, _, hcell⟩ := World.cells?_some h1
    have hb := bounds_i64 w1
    exact ⟨kd, ln, f, hcell 0 (by omega), hcell 1 (by omega), hcell 2 (by omega), hcell 3 (by omega), hcell 4 (by omega), hcell 5 (by omega), hb.1, hb.2⟩
end
/-- an act of the row, in a later world. -/
theorem act_at {w w' : World} {a : Option Addr} {len : Nat} (h : ActRow w a len) (hb : Below w.heap.size w w') (i : Nat) (hi : i < len) :
    ∃ b off kd ln f, a = some ⟨b, off, none⟩ ∧ w'.cell? ⟨b, off + i * 6, none⟩ = some (.int .i64 kd) ∧ w'.cell? ⟨b, off + i * 6 + 1, none⟩ = some (.int .i64 ln) ∧ w'.cell? ⟨b, off + i * 6 + 2, none⟩ = some (.bool f.b) ∧ w'.cell? ⟨b, off + i * 6 + 3, none⟩ = some (.bool f.e) ∧ w'.cell? ⟨b, off + i * 6 + 4, none⟩ = some (.int .i64 (f : Fr).q) ∧ w'.cell? ⟨b, off + i * 6 + 5, none⟩ = some (.string f.d) ∧ -9223372036854775808 ≤ ln ∧ ln ≤ 9223372036854775807 := by
  rcases h with ⟨_, rfl⟩ | ⟨⟨b, off, spot⟩, rfl, _, hc⟩
  · omega
  · obtain ⟨kd, ln, f, c0, c1, c2, c3, c4, c5, b0, b1⟩ := hc i hi
    obtain ⟨kd0, _, _, z0, _⟩ := hc 0 (by omega)
    have hs : spot = none := by simpa [Addr.add] using World.cell?_spot z0
    subst hs
    simp only [Addr.add_lit, Nat.add_zero] at c0 c1 c2 c3 c4 c5
    have up : ∀ (o : Nat) (v : Value), w.cell? ⟨b, o, none⟩ = some v → w'.cell? ⟨b, o, none⟩ = some v := fun o v h => (hb.cell (World.block_lt_of_cell? w _ h)).trans h
    exact ⟨b, off, kd, ln, f, rfl, up _ _ c0, up _ _ c1, up _ _ c2, up _ _ c3, up _ _ c4, up _ _ c5, b0, b1⟩
theorem act_len {w : World} {a : Option Addr} {len : Nat} (h : ActRow w a len) : len ≤ 9223372036854775807 := by
  rcases h with ⟨_, rfl⟩ | ⟨_, _, hl, _⟩
  · omega
  · unfold maxLen at hl; omega
end Go.Proofs.Ytcfgbfabokhjcaa

/- A fragment that came in by value. -/
import Derived.Test.YtdpknandacoibaaStruct
import Derived.Test.YtdpknandacoibaaCon
namespace Go.Proofs.Ytdpknandacoibaa
open Go.ChangeShapes Go.WideShapes Go.RowKit Go.Deep
open Plain
theorem open_frag {H : Type} {enc : TypeId × Value → H} {W : World} {base : Nat} {v : Value} {d : DataW H} {p : List MemPlace} (hv : Value.okWide Try.prog W .any base 23 v) (h : DataW.Trod enc Try.prog W 0 (fun _ => true) true 23 v d p) :
    ∃ f : Fr, v = .agg #[.bool f.b, .bool f.e, .int .i64 f.q, .string f.d] := by
  obtain ⟨cs, rfl, hl, hf⟩ := open_fields Try.underlying23 (by kernel_rfl) (by kernel_rfl) hv h
  match cs, hl with
  | [c0, c1, c2, c3], _ =>
    obtain ⟨u0, y0, n0, e0, t0⟩ := hf 0 _ rfl
    cases e0
    obtain ⟨x0, f0, _⟩ := DataW.trod_bool Try.underlying4 t0
    cases f0
    obtain ⟨u1, y1, n1, e1, t1⟩ := hf 1 _ rfl
    cases e1
    obtain ⟨x1, f1, _⟩ := DataW.trod_bool Try.underlying4 t1
    cases f1
    obtain ⟨u2, y2, n2, e2, t2⟩ := hf 2 _ rfl
    cases e2
    obtain ⟨x2, f2, _⟩ := DataW.trod_int Try.underlying3 t2
    cases f2
    obtain ⟨u3, y3, n3, e3, t3⟩ := hf 3 _ rfl
    cases e3
    obtain ⟨x3, f3, _⟩ := DataW.trod_string Try.underlying9 t3
    cases f3
    exact ⟨⟨x0, x1, x2, x3⟩, rfl⟩
end Go.Proofs.Ytdpknandacoibaa

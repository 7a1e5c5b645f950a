/- A config that came in by value. -/
import Derived.Test.YtbpfmpldbafepaaStruct
import Derived.Test.YtbpfmpldbafepaaFns
namespace Go.Proofs.Ytbpfmpldbafepaa
open Go.ChangeShapes Go.WideShapes Go.RowKit Go.Deep
open Plain
theorem open_cfg {H : Type} {enc : TypeId × Value → H} {W : World} {base : Nat} {v : Value} {d : DataW H} {p : List MemPlace} (hv : Value.okWide Try.prog W .any base 23 v) (h : DataW.Trod enc Try.prog W 0 (fun _ => true) true 23 v d p) :
    ∃ c : Cfg, v = .agg (cells c) := by
  obtain ⟨cs, rfl, hl, hf⟩ := open_fields Try.underlying23 (by kernel_rfl) (by kernel_rfl) hv h
  match cs, hl with
  | [c0, c1, c2, c3, c4, c5, c6, c7, c8, c9, c10, c11, c12, c13, c14, c15, c16, c17], _ =>
    obtain ⟨u0, y0, n0, e0, t0⟩ := hf 0 _ rfl
    cases e0
    obtain ⟨x0, f0, _⟩ := DataW.trod_int Try.underlying3 t0
    cases f0
    obtain ⟨u1, y1, n1, e1, t1⟩ := hf 1 _ rfl
    cases e1
    obtain ⟨x1, f1, _⟩ := DataW.trod_int Try.underlying3 t1
    cases f1
    obtain ⟨u2, y2, n2, e2, t2⟩ := hf 2 _ rfl
    cases e2
    obtain ⟨x2, f2, _⟩ := DataW.trod_int Try.underlying3 t2
    cases f2
    obtain ⟨u3, y3, n3, e3, t3⟩ := hf 3 _ rfl
    cases e3
    obtain ⟨x3, f3, _⟩ := DataW.trod_int Try.underlying3 t3
    cases f3
    obtain ⟨u4, y4, n4, e4, t4⟩ := hf 4 _ rfl
    cases e4
    obtain ⟨x4, f4, _⟩ := DataW.trod_int Try.underlying3 t4
    cases f4
    obtain ⟨u5, y5, n5, e5, t5⟩ := hf 5 _ rfl
    cases e5
    obtain ⟨x5, f5, _⟩ := DataW.trod_int Try.underlying3 t5
    cases f5
    obtain ⟨u6, y6, n6, e6, t6⟩ := hf 6 _ rfl
    cases e6
    obtain ⟨x6, f6, _⟩ := DataW.trod_int Try.underlying3 t6
    cases f6
    obtain ⟨u7, y7, n7, e7, t7⟩ := hf 7 _ rfl
    cases e7
    obtain ⟨x7, f7, _⟩ := DataW.trod_int Try.underlying3 t7
    cases f7
    obtain ⟨u8, y8, n8, e8, t8⟩ := hf 8 _ rfl
    cases e8
    obtain ⟨x8, f8, _⟩ := DataW.trod_int Try.underlying3 t8
    cases f8
    obtain ⟨u9, y9, n9, e9, t9⟩ := hf 9 _ rfl
    cases e9
    obtain ⟨x9, f9, _⟩ := DataW.trod_int Try.underlying3 t9
    cases f9
    obtain ⟨u10, y10, n10, e10, t10⟩ := hf 10 _ rfl
    cases e10
    obtain ⟨x10, f10, _⟩ := DataW.trod_int Try.underlying3 t10
    cases f10
    obtain ⟨u11, y11, n11, e11, t11⟩ := hf 11 _ rfl
    cases e11
    obtain ⟨x11, f11, _⟩ := DataW.trod_int Try.underlying3 t11
    cases f11
    obtain ⟨u12, y12, n12, e12, t12⟩ := hf 12 _ rfl
    cases e12
    obtain ⟨x12, f12, _⟩ := DataW.trod_bool Try.underlying4 t12
    cases f12
    obtain ⟨u13, y13, n13, e13, t13⟩ := hf 13 _ rfl
    cases e13
    obtain ⟨x13, f13, _⟩ := DataW.trod_string Try.underlying9 t13
    cases f13
    obtain ⟨u14, y14, n14, e14, t14⟩ := hf 14 _ rfl
    cases e14
    obtain ⟨x14, f14, _⟩ := DataW.trod_string Try.underlying9 t14
    cases f14
    obtain ⟨u15, y15, n15, e15, t15⟩ := hf 15 _ rfl
    cases e15
    obtain ⟨x15, f15, _⟩ := DataW.trod_string Try.underlying9 t15
    cases f15
    obtain ⟨u16, y16, n16, e16, t16⟩ := hf 16 _ rfl
    cases e16
    obtain ⟨x16, f16, _⟩ := DataW.trod_int Try.underlying3 t16
    cases f16
    obtain ⟨u17, y17, n17, e17, t17⟩ := hf 17 _ rfl
    cases e17
    obtain ⟨x17, f17, _⟩ := DataW.trod_int Try.underlying3 t17
    cases f17
    exact ⟨⟨x0, x1, x2, x3, x4, x5, x6, x7, x8, x9, x10, x11, x12, x13, x14, x15, x16, x17⟩, rfl⟩
end Go.Proofs.Ytbpfmpldbafepaa

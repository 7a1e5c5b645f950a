/- Proved here: withylaw18.SplitOne returns true for every input and leaves its arguments as they were (the given statement Rows.SplitOneSaid). Conditions: none. -/
import Derived.Test.YthhhbnbhcedhmaaRows
import Derived.Test.YthhhbnbhcedhmaaAwake
import Derived.Test.YthhhbnbhcedhmaaMask
import Derived.Test.YthhhbnbhcedhmaaBase2
import Derived.WalkKit
import Derived.SizedLaws
import Derived.ProofKit
import Derived.OpenShut
import Derived.ShutString
namespace Go.Proofs.Ythhhbnbhcedhmaa.splitOne
open Go.ChangeShapes Go.WideShapes Go.ChangeAt Go.RowKit
open Plain
open Go.ChangeMaps (open_string shut_string)
set_option linter.unusedVariables false      -- a walk need not use every 'w<i>' (that an integer argument fits its kind)

theorem own : ownKnob Try.prog.godebug = none := by kernel_rfl

theorem size1 (a : ByteArray) : (a ++ ⟨#[120]⟩ : ByteArray).size = a.size + 1 := by rw [ByteArray.size_append]; rfl
theorem size2 (a : ByteArray) : ((a ++ ⟨#[120]⟩ : ByteArray).extract 0 1500).size = min 1500 (a.size + 1) := by rw [ByteArray.size_extract, size1]; omega
/-- a packet that fits is one fragment. -/
theorem cut_one (s : ByteArray) (k q : Int) (w : World) (h1 : 1 ≤ s.size) (h2 : (s.size : Int) ≤ k) (h3 : k ≤ 1500) (h4 : 0 ≤ q) (h5 : q ≤ 4095) :
    Calls Try.prog 9 #[.string s, .slice (some ⟨w.heap.size, 0, none⟩) 1 1, .int .i64 q, .bool true] (w.alloc (.cells #[.int .i64 k] 3)) fun e w' =>
      ∃ g off cap, e = .returned (.tuple #[.slice (some ⟨g, off, none⟩) 1 cap, .int .i64 0]) ∧ Only [] w w' ∧ w'.cell? ⟨g, off, none⟩ = some (.bool true) ∧ w'.cell? ⟨g, off + 1, none⟩ = some (.bool true) ∧
        w'.cell? ⟨g, off + 2, none⟩ = some (.int .i64 q) ∧ w'.cell? ⟨g, off + 3, none⟩ = some (.string s) := by
  refine (cut_any s _ 1 1 (fun _ => k) q true _ (by omega) (Arr.one w k (by omega))).mono ?_
  rintro e w' ⟨ho, (⟨hb, _⟩ | ⟨_, n, ao, cap, _, hc, rfl, hsl, _⟩)⟩
  · have := (bad_one _ _ _ _).1 hb
    have e4 : ring true = 4096 := rfl
    omega
  have hn := hc.unique (cuts_one s.size k (by omega))
  have h1' : (s.size + k.toNat - 1) / k.toNat = 1 := by
    have a : 0 < (s.size + k.toNat - 1) / k.toNat := (ceil_lt _ _ _ (by omega)).2 (by omega)
    have b : ¬ 1 < (s.size + k.toNat - 1) / k.toNat := fun h => by have := (ceil_lt _ _ _ (by omega)).1 h; omega
    omega
  rw [h1'] at hn
  subst hn
  obtain ⟨g, off, rfl⟩ := hsl.some (by omega)
  have hf : fr s (fun _ => k) 1 q (ring true) 0 = ⟨true, true, q, s⟩ := by
    have p1 : pos s.size (fun _ => k) 1 1 = s.size := by rw [pos_one]; omega
    have p0 : pos s.size (fun _ => k) 1 0 = 0 := rfl
    unfold fr
    rw [Nat.zero_add, p1, p0]
    simp [ring]
    omega
  have hfs : frs s (fun _ => k) 1 q (ring true) 1 = [⟨true, true, q, s⟩] := by rw [frs, List.range_one, List.map_cons, hf]; rfl
  rw [hfs] at hsl
  have c := fun j u => hsl.cells j u
  exact ⟨g, off, cap, rfl, ((Only.refl _ _).alloc _).trans ho, c 0 _ rfl, c 1 _ rfl, c 2 _ rfl, c 3 _ rfl⟩

/- The walk: the law's text returns true. -/
set_option maxRecDepth 100000 in
set_option maxHeartbeats 2000000 in
theorem walk (a0 : ByteArray) (a1 : Int) (a2 : Int) (w0 : a0.size ≤ 140737488351232) (w1 : (Lit.int .i64 a1).wf = true) (w2 : (Lit.int .i64 a2).wf = true) (w : World) :
    Calls Try.prog 6 #[.string a0, .int .i64 a1, .int .i64 a2] w fun e w' => e = .returned (.bool true) ∧ Below w.heap.size w w' := by
  have M0 := and_255 a1
  have M1 : 0 ≤ a1 % 256 := by omega
  have M2 : a1 % 256 ≤ 255 := by omega
  have N0 := and_4095 a2
  have N1 : 0 ≤ a2 % 4096 := by omega
  have N2 : a2 % 4096 ≤ 4095 := by omega
  generalize a1 % 256 = ma at *
  generalize a2 % 4096 = q at *
  have hs1 : a0.size + 1 ≤ 9223372036854775807 := by omega
  go_enter Try.func6, Try.ntmps6
  go_wp2_with fail
  refine (awake_any w).mono ?_
  rintro e wa ⟨rfl, O0⟩
  go_wp2_with fail
  all_goals
    refine (cut_one _ _ q wa (by first | (rw [size2]; omega) | (rw [size1]; omega)) (by first | (rw [size2]; omega) | (rw [size1]; omega)) (by omega) N1 N2).mono ?_
    rintro e wb ⟨g, off, cap, rfl, O1, c0, c1, c2, c3⟩
    go_wp2_with (go_at_call 12; refine (num_any _ _).mono ?_; rintro e w' ⟨rfl, rfl⟩)
    go_ret
    exact ⟨rfl, (O0.trans O1).below _ (Nat.le_refl _) (by simp)⟩

/- The row's step. -/
set_option maxRecDepth 100000 in
theorem lifted (os : Os) (started : os.Started) (H : Type) (enc : TypeId × Value → H) :
    ReturnsInHanded {} Try.checked os 6 .any (Rows.splitOneSpec.pre6 enc Try.prog Try.f6 Rows.splitOneRow.domain false) (Rows.splitOneSpec.post enc Try.prog Try.f6 false true false false) := by
  refine returnsInHanded_of_change_sized (C := Try.checked) own started (by kernel_rfl) Try.func6
    (ChangeSpec.witness6 (enc := enc) (C := Try.checked) false ⟨#[], #[.string ByteArray.empty, .int .i64 0, .int .i64 0], []⟩ 8 (by kernel_rfl) (by kernel_rfl) (by kernel_rfl) (by kernel_rfl)) ?_
  intro W base args ds gs before hval0 hW hcnd hsz _
  have hval : ∀ (j : Nat) t v, Try.f6.params[j]? = some t → args[j]? = some v → Value.okWide Try.prog W .any base t v := hval0
  have hW' := hW
  obtain ⟨p, q, hA0, hV, rfl, hfz, hnd⟩ := hW
  have hA : DataW.TrodAll enc Try.prog W 0 (fun _ => true) true Try.f6.params.toList args.toList ds p := hA0
  rw [Try.params6] at hA hval
  obtain ⟨v0, vs0, d0, ds0, p0, q0, hargs, rfl, rfl, h0, r0⟩ := trodAll_cons hA
  obtain ⟨v1, vs1, d1, ds1, p1, q1, rfl, rfl, rfl, h1, r1⟩ := trodAll_cons r0
  obtain ⟨v2, vs2, d2, ds2, p2, q2, rfl, rfl, rfl, h2, r2⟩ := trodAll_cons r1
  obtain ⟨rfl, rfl, rfl⟩ := trodAll_nil r2
  obtain rfl : args = #[v0, v1, v2] := by cases args; simp_all
  obtain ⟨rfl, rfl⟩ := trodVars_none hV
  obtain ⟨a0, rfl, rfl, rfl, w0⟩ := open_string Try.underlying9 (hval 0 9 v0 rfl rfl) h0
  obtain ⟨a1, rfl, rfl, rfl, w1⟩ := open_int Try.underlying3 (hval 1 3 v1 rfl rfl) h1
  obtain ⟨a2, rfl, rfl, rfl, w2⟩ := open_int Try.underlying3 (hval 2 3 v2 rfl rfl) h2
  have z0 : a0.size ≤ 140737488351232 := by have := sized_string hsz (j := 0) (t := 9) rfl rfl; simpa [reachBytes] using this
  clear hA0 hval0
  refine (walk a0 a1 a2 z0 w1 w2 W).mono fun e W' ⟨he, hg⟩ => ?_
  subst he
  exact ⟨_, rfl, _, _, _, [], _, [], hW', (trodAll_cons_mk (shut_bool Try.underlying4 _) trodAll_mk0), (trodAll_cons_mk (shut_string Try.underlying9 w0) (trodAll_cons_mk (shut_int Try.underlying3 w1) (trodAll_cons_mk (shut_int Try.underlying3 w2) trodAll_mk0))), rfl, hg.frame _, fun h => by cases h⟩

theorem over : Rows.splitOneRow.holds Try.pinned (OpenSpec.ofChange Rows.splitOneSpec) :=
  OpenClaim.holds_of_wide 6 Try.f6 rfl rfl rfl rfl rfl rfl rfl ⟨rfl, rfl, rfl, rfl, rfl⟩ rfl rfl rfl rfl rfl (by kernel_rfl) Try.func6 (by kernel_rfl)
    (of_decide_eq_true (by kernel_rfl)) (by unfold Func.isWrapper; first | (rw [if_pos (by decide +kernel)]; kernel_rfl) | (rw [if_neg (by decide +kernel)]; exact ⟨rfl, rfl⟩))
    (fun os started H enc _ => lifted os started H enc)

/-- The statement. -/
theorem proved : Rows.SplitOneSaid :=
  over
#print axioms proved
end Go.Proofs.Ythhhbnbhcedhmaa.splitOne

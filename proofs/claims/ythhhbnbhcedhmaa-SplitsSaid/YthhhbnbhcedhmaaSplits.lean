/- Proved here: withylaw18.Splits returns true for every input and leaves its arguments as they were (the given statement Rows.SplitsSaid). Conditions: none. -/
import Derived.Test.YthhhbnbhcedhmaaRows
import Derived.Test.YthhhbnbhcedhmaaAwake
import Derived.Test.YthhhbnbhcedhmaaMask
import Derived.Test.YthhhbnbhcedhmaaBase2
import Derived.WalkKit
import Derived.Lib.Hide
import Derived.Test.YthhhbnbhcedhmaaFns2
import Derived.SizedLaws
import Derived.ProofKit
import Derived.OpenShut
import Derived.ShutString
import Derived.ChangeOld
import Derived.Below
namespace Go.Proofs.Ythhhbnbhcedhmaa.splits
open Go.ChangeShapes Go.WideShapes Go.ChangeAt Go.RowKit
open Plain
open Go.ChangeMaps (open_string shut_string)
set_option linter.unusedVariables false

theorem own : ownKnob Try.prog.godebug = none := by kernel_rfl
theorem laidOut : laidOutB Try.prog = true := by kernel_rfl

/-- WHAT THE WALK IS TOLD OF A SLICE OF INTEGERS THAT CAME IN: it is nil; or it leads to a row of 'cap' cells, the numbers 'zs' (the first 'len' are its elements, the rest its spare room), each fitting its kind. -/
def IsRow (k : IntKind) (w : World) (a : Option Addr) (len cap : Nat) (zs : List Int) : Prop :=
  (a = none ∧ len = 0 ∧ cap = 0 ∧ zs = []) ∨
  ∃ x, a = some x ∧ len ≤ cap ∧ cap ≤ maxLen ∧ zs.length = cap ∧ (∀ i, i < zs.length → w.cell? (x.add i) = some (.int k (zs.getD i 0))) ∧ ∀ n ∈ zs, (Lit.int k n).wf = true

/-- an element of a row that came in. -/
theorem row_at {w : World} {a : Option Addr} {len cap : Nat} {zs : List Int} (h : IsRow .i64 w a len cap zs) (i : Nat) (hi : i < len) :
    ∃ b off, a = some ⟨b, off, none⟩ ∧ b < w.heap.size ∧ w.cell? ⟨b, off + i, none⟩ = some (.int .i64 (zs.getD i 0)) ∧ -9223372036854775808 ≤ zs.getD i 0 ∧ zs.getD i 0 ≤ 9223372036854775807 := by
  rcases h with ⟨_, rfl, _, _⟩ | ⟨x, rfl, hl, hm, hz, hcell, hwz⟩
  · omega
  · have hc := hcell i (by omega)
    obtain ⟨b, off, spot⟩ := x
    have hc0 := hcell 0 (by omega)
    have hspot : spot = none := by simpa [Addr.add] using World.cell?_spot hc0
    subst hspot
    rw [Addr.add_lit] at hc
    have hb := bounds_i64 (hwz (zs.getD i 0) (by rw [show zs.getD i 0 = zs[i]'(by omega) from by simp [List.getD, show i < zs.length by omega]]; exact List.getElem_mem _))
    exact ⟨b, off, rfl, World.block_lt_of_cell? w _ hc, hc, hb.1, hb.2⟩
theorem row_len {w : World} {a : Option Addr} {len cap : Nat} {zs : List Int} (h : IsRow .i64 w a len cap zs) : len ≤ 9223372036854775807 := by
  rcases h with ⟨_, rfl, _, _⟩ | ⟨x, rfl, hl, hm, _⟩
  · omega
  · unfold maxLen at hm; omega
theorem row_arr {w : World} {a : Option Addr} {len cap : Nat} {zs : List Int} (h : IsRow .i64 w a len cap zs) : Arr w a len (fun i => zs.getD i 0) := ⟨row_len h, fun i hi => row_at h i hi⟩

theorem sl_arr {w w' : World} {g off m ca : Nat} {z : Nat → Int} {b : Option Addr} (ha : Sl w' 3 1 (some ⟨g, off, none⟩) (m + 2) ca (intsOf z m ++ [.int .i64 (-7777), .int .i64 (-8888)])) (hb : Arr w b m z) : Arr w' (some ⟨g, off, none⟩) m z := by
  refine ⟨hb.1, fun i hi => ⟨g, off, rfl, ha.lt rfl, ?_, ?_⟩⟩
  · exact ha.cells i _ (by rw [List.getElem?_append_left (by rw [intsOf_length]; exact hi)]; exact intsOf_get z m i hi)
  · obtain ⟨_, _, _, _, _, h⟩ := hb.2 i hi; exact h

/- The walk: the law's text returns true. -/
set_option maxRecDepth 100000 in
set_option maxHeartbeats 2000000 in
theorem walk (a0 : ByteArray) (a1 : Option Addr) (len1 cap1 : Nat) (z1 : List Int) (a2 : Int) (a3 : Bool) (w : World) (w0 : a0.size ≤ maxLen) (w1 : IsRow .i64 w a1 len1 cap1 z1) (y1 : cap1 * 8 ≤ 140737488351232) (w2 : (Lit.int .i64 a2).wf = true) :
    Calls Try.prog 3 #[.string a0, .slice a1 len1 cap1, .int .i64 a2, .bool a3] w fun e w' => e = .returned (.bool true) ∧ Below w.heap.size w w' := by
  have hA := row_arr w1
  have hcl : len1 ≤ cap1 := by
    rcases w1 with ⟨_, h1, h2, _⟩ | ⟨x, _, h, _⟩ <;> omega
  have hm8 : len1 * 8 ≤ 140737488351232 := by omega
  clear w1
  have hs : a0.size ≤ 9223372036854775807 := by unfold maxLen at w0; omega
  generalize hz : (fun i => z1.getD i 0) = z at hA
  clear hz
  obtain ⟨fs, n, code, hfn, hn, hfix⟩ := cut_fix a0 z len1 a2 a3
  have HF := Lib.hid hfix
  have HFN := Lib.hid hfn
  clear hfix hfn
  go_enter Try.func3, Try.ntmps3
  go_wp2_with fail
  refine (lend_ints a1 len1 cap1 z w hA hm8).mono ?_
  rintro e wa ⟨g, off, ca, rfl, hx, O0⟩
  have hX : Arr wa (some ⟨g, off, none⟩) len1 z := sl_arr hx hA
  go_wp2_with fail
  refine (cut_any a0 _ len1 _ z a2 a3 wa hs hX).mono ?_
  intro e wb hp
  obtain ⟨ao, cb, rfl, ha, hfa, O1⟩ := HF.out _ _ _ hp
  clear hp
  go_wp2_with fail
  refine (cut_any a0 _ len1 _ z a2 a3 wb hs (hX.only O1)).mono ?_
  intro e wc hp
  obtain ⟨bo, cc, rfl, hb, hfb, O2⟩ := HF.out _ _ _ hp
  clear hp
  go_wp2_with fail
  refine (rcut_any a0 _ len1 _ z a2 a3 wc hs (((hA.only O0).only O1).only O2)).mono ?_
  intro e wd hp
  obtain ⟨co, cd, rfl, hc, hfc, O3⟩ := HF.out _ _ _ hp
  clear hp
  have ha3 := (ha.only O2 (by simp)).only O3 (by simp)
  have hb3 := hb.only O3 (by simp)
  have hx3 := ((hx.only O1 (by simp)).only O2 (by simp)).only O3 (by simp)
  have hA3 := (((hA.only O0).only O1).only O2).only O3
  have hsb : Hid (∀ k, blk bo = some k → k ∉ (blk ao).toList) := fun k hk hm => by
    have h1 := hfb k hk
    have h2 : blk ao = some k := by simpa using hm
    have := ha.lt h2
    omega
  have hsc : Hid (∀ k, blk co = some k → k ∉ (blk ao).toList) := fun k hk hm => by
    have h1 := hfc k hk
    have h2 : blk ao = some k := by simpa using hm
    have := (ha.only O2 (by simp)).lt h2
    omega
  have hsa : Hid (∀ k ∈ (blk ao).toList, w.heap.size ≤ k) := fun k hk => by
    have := hfa k (by simpa using hk)
    have := O0.size
    omega
  have O4 := ((O0.trans O1).trans O2).trans O3
  have e1 : (code != code) = false := by simp
  clear O0 O1 O2 O3 ha hb hx hA hX hfa hfb hfc
  go_wp2_with fail
  refine (same_frags ao co n cb cd fs wd HFN.out (by omega) ha3 hc).mono ?_
  rintro e we ⟨rfl, O5⟩
  go_wp2_with (go_at_call 12; refine (num_any _ _).mono ?_; rintro e w' ⟨rfl, rfl⟩)
  refine (kept_ints g off a1 len1 ca cap1 z we (hx3.only O5 (by simp)) (hA3.only O5) hm8).mono ?_
  rintro e wf ⟨rfl, O6⟩
  have O7 := O5.trans O6
  have ha4 := ha3.only O7 (by simp)
  have hb4 := hb3.only O7 (by simp)
  have hc4 := hc.only O7 (by simp)
  have O8 := O4.trans O7
  clear O4 O5 O6 O7 ha3 hb3 hc hx3 hA3
  go_wp2_with fail
  refine (spoil_frags ao n cb fs wf HFN.out hn ha4).mono ?_
  rintro e wg ⟨rfl, O9⟩
  have hb5 := hb4.only O9 hsb.out
  have hc5 := hc4.only O9 hsc.out
  have O10 := O8.trans' O9 (fun k hk => .inr (hsa.out k hk))
  clear O8 O9 hb4 hc4 ha4
  go_wp2_with fail
  refine (same_frags bo co n cc cd fs wg HFN.out (by omega) hb5 hc5).mono ?_
  rintro e wh ⟨rfl, O11⟩
  have O12 := O10.trans O11
  clear O10 O11 hb5 hc5
  go_wp2_with fail
  refine (awake_any wh).mono ?_
  rintro e wi ⟨rfl, O13⟩
  have O14 := O12.trans O13
  go_wp2
  go_ret
  exact ⟨rfl, O14.below _ (Nat.le_refl _) (by simp)⟩

/- The row's step. -/
set_option maxRecDepth 100000 in
theorem lifted (os : Os) (started : os.Started) (H : Type) (enc : TypeId × Value → H) :
    ReturnsInHanded {} Try.checked os 3 .any (Rows.splitsSpec.pre6 enc Try.prog Try.f3 Rows.splitsRow.domain false) (Rows.splitsSpec.post enc Try.prog Try.f3 false true false false) := by
  refine returnsInHanded_of_change_sized (C := Try.checked) own started (by kernel_rfl) Try.func3
    (ChangeSpec.witness6 (enc := enc) (C := Try.checked) false ⟨#[], #[.string ByteArray.empty, .slice none 0 0, .int .i64 0, .bool false], []⟩ 8 (by kernel_rfl) (by kernel_rfl) (by kernel_rfl) (by kernel_rfl)) ?_
  intro W base args ds gs before hval0 hW hcnd hsz _
  have hval : ∀ (j : Nat) t v, Try.f3.params[j]? = some t → args[j]? = some v → Value.okWide Try.prog W .any base t v := hval0
  have hW' := hW
  obtain ⟨p, q, hA0, hV, rfl, hfz, hnd⟩ := hW
  have hA : DataW.TrodAll enc Try.prog W 0 (fun _ => true) true Try.f3.params.toList args.toList ds p := hA0
  rw [Try.params3] at hA hval
  obtain ⟨v0, vs0, d0, ds0, p0, q0, hargs, rfl, rfl, h0, r0⟩ := trodAll_cons hA
  obtain ⟨v1, vs1, d1, ds1, p1, q1, rfl, rfl, rfl, h1, r1⟩ := trodAll_cons r0
  obtain ⟨v2, vs2, d2, ds2, p2, q2, rfl, rfl, rfl, h2, r2⟩ := trodAll_cons r1
  obtain ⟨v3, vs3, d3, ds3, p3, q3, rfl, rfl, rfl, h3, r3⟩ := trodAll_cons r2
  obtain ⟨rfl, rfl, rfl⟩ := trodAll_nil r3
  obtain rfl : args = #[v0, v1, v2, v3] := by cases args; simp_all
  obtain ⟨rfl, rfl⟩ := trodVars_none hV
  obtain ⟨a0, rfl, rfl, rfl, w0⟩ := open_string Try.underlying9 (hval 0 9 v0 rfl rfl) h0
  obtain ⟨a1, len1, cap1, rfl⟩ := okWide_slice Try.underlying22 (hval 1 22 v1 rfl rfl)
  have k1 := h1
  have lt1 : ∀ x ∈ p1, x.block < W.heap.size := by obtain ⟨m, hm⟩ := k1; exact DataW.trod_lt m _ _ _ hm
  obtain ⟨z1, w1, y1⟩ : ∃ zs, IsRow .i64 W a1 len1 cap1 zs ∧ cap1 * 8 ≤ 140737488351232 := by
    obtain ⟨fuel, hf⟩ := h1
    rcases open_ints Try.underlying22 Try.underlying3 (by kernel_rfl) hf with ⟨hcs, _⟩ | ⟨x, l, c, zs, hcs, _, hl, hm, hz, hx, hcell, hwz⟩
    · simp [Value.cells] at hcs
      obtain ⟨rfl, rfl, rfl⟩ := hcs
      exact ⟨[], .inl ⟨rfl, rfl, rfl, rfl⟩, by omega⟩
    · simp [Value.cells] at hcs
      obtain ⟨rfl, rfl, rfl⟩ := hcs
      have hd := congrArg Prod.fst hx
      simp only at hd
      subst hd
      have hy := sized_slice hsz (j := 1) (t := 22) rfl rfl Try.underlying22
      rw [show Try.checked.prog.bytesOf 3 = 8 by kernel_rfl] at hy
      simp only [lits, List.length_map, List.length_take, List.length_drop, reachBytes] at hy
      have hz' : zs.length = cap1 := by simpa using hz
      exact ⟨zs, .inr ⟨_, rfl, hl, hm, by simpa using hz, hcell, hwz⟩, by omega⟩
  obtain ⟨a2, rfl, rfl, rfl, w2⟩ := open_int Try.underlying3 (hval 2 3 v2 rfl rfl) h2
  obtain ⟨a3, rfl, rfl, rfl⟩ := open_bool Try.underlying4 (hval 3 4 v3 rfl rfl) h3
  clear hA0 hval0
  refine (walk a0 a1 len1 cap1 z1 a2 a3 W w0 w1 y1 w2).mono fun e W' ⟨he, bel⟩ => ?_
  subst he
  exact ⟨_, rfl, _, _, _, [], _, [], hW', trodAll_mk1 (shut_bool Try.underlying4 _), (trodAll_cons_mk (shut_string Try.underlying9 w0) (trodAll_cons_mk (Below.trod laidOut (by kernel_rfl) (of_decide_eq_true (by kernel_rfl)) k1 bel lt1) (trodAll_cons_mk (shut_int Try.underlying3 w2) (trodAll_cons_mk (shut_bool Try.underlying4 _) trodAll_mk0)))), rfl, bel.frame _, fun h => by cases h⟩

theorem over : Rows.splitsRow.holds Try.pinned (OpenSpec.ofChange Rows.splitsSpec) :=
  OpenClaim.holds_of_wide 3 Try.f3 rfl rfl rfl rfl rfl rfl rfl ⟨rfl, rfl, rfl, rfl, rfl⟩ rfl rfl rfl rfl rfl (by kernel_rfl) Try.func3 (by kernel_rfl)
    (of_decide_eq_true (by kernel_rfl)) (by unfold Func.isWrapper; first | (rw [if_pos (by decide +kernel)]; kernel_rfl) | (rw [if_neg (by decide +kernel)]; exact ⟨rfl, rfl⟩))
    (fun os started H enc _ => lifted os started H enc)

/-- The statement. -/
theorem proved : Rows.SplitsSaid := over
#print axioms proved
end Go.Proofs.Ythhhbnbhcedhmaa.splits

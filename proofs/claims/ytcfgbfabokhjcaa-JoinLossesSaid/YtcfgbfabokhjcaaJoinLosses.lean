/- Proved here: withylaw19.JoinLosses returns true for every input and leaves its arguments as they were (the given statement Rows.JoinLossesSaid). Conditions: none. -/
import Derived.Test.YtcfgbfabokhjcaaRows
import Derived.Test.YtcfgbfabokhjcaaWires
import Derived.Test.YtcfgbfabokhjcaaMask
import Derived.Lib.Hide
import Derived.Deep.Cut
import Derived.StillTactics
import Derived.SliceStrings
import Derived.WalkKit
import Derived.SizedLaws
import Derived.ProofKit
import Derived.OpenShut
import Derived.ShutString
import Derived.ChangeOld
import Derived.Below
namespace Go.Proofs.Ytcfgbfabokhjcaa.joinLosses
open Go.ChangeShapes Go.WideShapes Go.ChangeAt Go.RowKit
open Plain
open Go.ChangeMaps (open_string shut_string)
set_option linter.unusedVariables false

theorem own : ownKnob Try.prog.godebug = none := by kernel_rfl
theorem laidOut : laidOutB Try.prog = true := by kernel_rfl

/-- what the walk is told of a slice of ints that came in. -/
def IsRow (k : IntKind) (w : World) (a : Option Addr) (len cap : Nat) (zs : List Int) : Prop :=
  (a = none ∧ len = 0 ∧ cap = 0 ∧ zs = []) ∨
  ∃ x, a = some x ∧ len ≤ cap ∧ cap ≤ maxLen ∧ zs.length = cap ∧ (∀ i, i < zs.length → w.cell? (x.add i) = some (.int k (zs.getD i 0))) ∧ ∀ n ∈ zs, (Lit.int k n).wf = true

/-- an element of a row that came in. -/
theorem row_at {w : World} {a : Option Addr} {len cap : Nat} {zs : List Int} (h : IsRow .i64 w a len cap zs) (i : Nat) (hi : i < len) :
    ∃ b off, a = some ⟨b, off, none⟩ ∧ b < w.heap.size ∧ w.cell? ⟨b, off + i, none⟩ = some (.int .i64 (zs.getD i 0)) ∧ -9223372036854775808 ≤ zs.getD i 0 ∧ zs.getD i 0 ≤ 9223372036854775807 := by
  rcases h with ⟨_, rfl, _, _⟩ | ⟨x, rfl, hl, hm, hz, hcell, hwz⟩
  · omega
  · have hc := hcell i (by omega)
    obtain ⟨b, off, spot⟩ := x
    have hc0 := hcell 0 (by omega)
    have hspot : spot = none := by simpa [Addr.add] using World.cell?_spot hc0
    subst hspot
    rw [Addr.add_lit] at hc
    have hb := bounds_i64 (hwz (zs.getD i 0) (by rw [show zs.getD i 0 = zs[i]'(by omega) from by simp [List.getD, show i < zs.length by omega]]; exact List.getElem_mem _))
    exact ⟨b, off, rfl, World.block_lt_of_cell? w _ hc, hc, hb.1, hb.2⟩
theorem row_len {w : World} {a : Option Addr} {len cap : Nat} {zs : List Int} (h : IsRow .i64 w a len cap zs) : len ≤ 9223372036854775807 := by
  rcases h with ⟨_, rfl, _, _⟩ | ⟨x, rfl, hl, hm, _⟩
  · omega
  · unfold maxLen at hm; omega

/- The walk: the law's text returns true. -/
set_option maxRecDepth 100000 in
set_option maxHeartbeats 2000000 in
theorem walk (a0 : Option Addr) (len0 cap0 : Nat) (z0 : List ByteArray) (a1 : Int) (w1 : (Lit.int .i64 a1).wf = true) (a2 : Int) (w2 : (Lit.int .i64 a2).wf = true) (a3 : Option Addr) (len3 cap3 : Nat) (z3 : List Int) (a4 : Option Addr) (len4 cap4 : Nat) (z4 : List Int) (w : World) (w0 : StrRow w a0 len0 z0) (w3 : IsRow .i64 w a3 len3 cap3 z3) (w4 : IsRow .i64 w a4 len4 cap4 z4) :
    Calls Try.prog 4 #[.slice a0 len0 cap0, .int .i64 a1, .int .i64 a2, .slice a3 len3 cap3, .slice a4 len4 cap4] w fun e w' => e = .returned (.bool true) ∧ Below w.heap.size w w' := by
  have L0 := and_3 a2
  have hlen3 := row_len w3
  have hlen4 := row_len w4
  clear w1 w2
  obtain ⟨i9, hi9, hz9, hsz9, hby9⟩ := info_parts info9
  obtain ⟨i39, hi39, hz39, hsz39, hby39⟩ := info_parts Cutp.info39
  go_enter Try.func4, Try.ntmps4
  go_wp2_with fail
  refine (awake_any w).mono ?_
  rintro e wa ⟨rfl, O0⟩
  have r31 : 0 ≤ a2 % 4 := by omega
  have r32 : a2 % 4 < 4 := by omega
  generalize a2 % 4 = q at *
  obtain ⟨K, hK⟩ := Int.eq_ofNat_of_zero_le (show 0 ≤ 1 + q by omega)
  have k1 : 1 ≤ K := by omega
  have k4 : K ≤ 4 := by omega
  have HK := Lib.hid hK
  clear hK
  go_upto_region 4 with fail
  rw [HK.out]
  clear HK L0 r31 r32
  go_wp2_with fail
  refine (new_good true 16 wa (by omega) (by omega)).mono ?_
  rintro e wb ⟨p, bl, bh, rfl, h0, o0, n1, n2, n3⟩
  have hOw := O0.size
  have HB1 := Lib.hid (And.intro n1 (And.intro n2 n3))
  have O1 : Below w.heap.size w wb := (O0.trans o0).below _ (Nat.le_refl _) (by simp)
  have HB2 := Lib.hid (show w.heap.size ≤ p ∧ w.heap.size ≤ bl ∧ w.heap.size ≤ bh from ⟨by omega, by omega, by omega⟩)
  clear o0 O0 n1 n2 n3 hOw HB1
  go_wp2_with (go_at_call 14; refine (num_any _ _).mono ?_; rintro e w' ⟨rfl, rfl⟩)
  go_loopw [14] (fun i wr => ∃ t : Nat, i = .int .i64 t ∧ t ≤ K ∧ PJ wr p bl bh (addN t (J.new true 16)) ∧ Below w.heap.size w wr) (fun i _ => K - (intOf i).toNat)
  case atStart => exact ⟨0, rfl, by omega, h0, O1⟩
  case round =>
    clear h0 O1
    obtain ⟨t, rfl, ht, h0, O1⟩ := hrel
    by_cases hlt : t < K
    · have d0 : decide (t < K) = true := by simp; omega
      go_wp2_with fail
      refine (add_any p bl bh _ (t : Int) wr h0 (by omega) (by omega)).mono ?_
      rintro e wc ⟨rfl, h1, o1⟩
      have O2 : Below w.heap.size w wc := O1.trans (o1.below _ O1.size (by have := HB2.out; simp; omega))
      clear h0 O1 o1
      go_wp2_with fail
      go_roundw
      case rel => exact ⟨t + 1, by go_num, by omega, h1, O2⟩
      case measure => simp [intOf]; omega
    · have d0 : decide (t < K) = false := by simp; omega
      have ht2 : t = K := by omega
      rw [ht2] at h0
      clear ht2 hlt ht
      go_wp2_with fail
      have hst := w0.below O1
      have hlJ := h0.lt
      clear d0
      refine (cuts_any a0 len0 cap0 z0 a1 wr hst).mono ?_
      rintro e wc ⟨aof, capf, fs, aow, capw, want, R, rfl, hC, hR, hR0, hfl, hwl⟩
      have h1 := h0.only hC.only (by simp) (by simp) (by simp)
      have hb1 := O1.trans (hC.only.below _ O1.size (by simp))
      have hbf : ∀ k, blk aof = some k → w.heap.size ≤ k ∧ k < wc.heap.size := fun k hk => ⟨Nat.le_trans O1.size (hC.bf k hk), hC.fs.lt hk⟩
      have hbw : ∀ k, blk aow = some k → w.heap.size ≤ k ∧ k < wc.heap.size ∧ k ∉ [p, bl, bh] := fun k hk => ⟨Nat.le_trans O1.size (hC.bw k hk), hC.want.lt hk, by have := hC.bw k hk; simp; omega⟩
      have HLO := Lib.hid (lo_start k1 k4 hR hR0 hfl h1.ok)
      have hW0 := Wires.start wc fs
      have hal : Only [] wc (wc.alloc (.cells #[.slice none 0 0, .slice none 0 0, .slice none 0 0, .slice none 0 0] 53)) := (Only.refl [] wc).alloc _
      have h2 := h1.only hal (by simp) (by simp) (by simp)
      have hfs0 := hC.fs.only hal (by simp)
      have hwt0 := hC.want.only hal (by simp)
      have hb2 := hb1.trans (hal.below _ hb1.size (by simp))
      have HB3 := Lib.hid (show (w.heap.size ≤ p ∧ w.heap.size ≤ bl ∧ w.heap.size ≤ bh ∧ w.heap.size ≤ wc.heap.size) ∧ (p < wc.heap.size ∧ bl < wc.heap.size ∧ bh < wc.heap.size) ∧ (∀ k, blk aof = some k → w.heap.size ≤ k ∧ k < wc.heap.size) ∧ (∀ k, blk aow = some k → w.heap.size ≤ k ∧ k < wc.heap.size ∧ k ∉ [p, bl, bh]) from ⟨⟨HB2.out.1, HB2.out.2.1, HB2.out.2.2, hb1.size⟩, h1.lt, hbf, hbw⟩)
      clear hst h0 O1 hC hR hR0 h1 hb1 hbf hbw hal hlJ HB2
      go_upto_region 15 with fail
      generalize World.alloc wc _ = wd at *
      generalize wc.heap.size = g at *
      generalize addN K (J.new true 16) = S0 at *
      go_wp2_with fail
      go_loopw [18] (fun i wr => ∃ (t : Nat) (W : Nat → Option Addr × Nat) (L : Nat → List Fr), i = .int .i64 t ∧ t ≤ fs.length ∧ PJ wr p bl bh S0 ∧ Wires wr g W L fs none ∧ (∀ j, j < 4 → (L j).length ≤ t) ∧ Sl wr 33 4 aof fs.length capf (Cutp.flatF fs) ∧ Sl wr 9 1 aow want.length capw (want.map Value.string) ∧ Below w.heap.size w wr) (fun i _ => fs.length - (intOf i).toNat)
      case atStart => exact ⟨0, _, _, rfl, by omega, h2, hW0, fun j hj => by simp, hfs0, hwt0, hb2⟩
      case round =>
        clear h2 hW0 hfs0 hwt0 hb2
        obtain ⟨t, W, L, rfl, ht, hS, hWi, hLt, hfs, hwt, hb⟩ := hrel
        by_cases hlt : t < fs.length
        · have d1 : decide (t < fs.length) = true := by simpa using hlt
          have hcase : (∃ b3 off3 y, a3 = some ⟨b3, off3, none⟩ ∧ t < len3 ∧ wr.cell? ⟨b3, off3 + t, none⟩ = some (.int .i64 y)) ∨ ¬ t < len3 := by
            by_cases h3 : t < len3
            · obtain ⟨b3, off3, e3, hbl3, hc3, _, _⟩ := row_at w3 t h3
              exact .inl ⟨b3, off3, _, e3, h3, (hb.cell hbl3).trans hc3⟩
            · exact .inr h3
          rcases hcase with ⟨b3, off3, y, rfl, h3, hcr⟩ | h3
          · have d2 : decide (t < len3) = true := by simpa using h3
            have m1 := and_3 y
            generalize y % 4 = y4 at *
            by_cases hy : y4 = 0
            · subst hy
              go_wp2_with fail
              go_roundw
              case rel => exact ⟨t + 1, W, L, by go_num, by omega, hS, hWi, fun j hj => by have := hLt j hj; omega, hfs, hwt, hb⟩
              case measure => simp [intOf]; omega
            · have d3 : (y4 == 0) = false := by simpa using hy
              go_upto_region 19 with fail
              clear hcr d2 d3 hy m1
              have hcl : t % K < K := Nat.mod_lt t (by omega)
              have hci : (t : Int) % (K : Int) = ((t % K : Nat) : Int) := by rw [Int.natCast_emod]
              have hct : (t : Int).tmod (K : Int) = ((t % K : Nat) : Int) := by rw [Int.tmod_eq_emod_of_nonneg (by omega), hci]
              have nK : ¬ (K : Int) = 0 := by omega
              have nK2 : ¬ K = 0 := by omega
              generalize t % K = c at *
              have hc4 : c < 4 := by omega
              have hc4i : (c : Int) < 4 := by omega
              obtain ⟨gb, go, rfl⟩ := hfs.some (by omega)
              have oq : Only [] wr wr.drew := Only.drew (Only.refl [] wr)
              have hS1 := hS.only oq (by simp) (by simp) (by simp)
              have hWi1 := hWi.old oq (by simp) (by simp)
              have hfs1 := hfs.only oq (by simp)
              have hwt1 := hwt.only oq (by simp)
              have hb1 := hb.trans (oq.below _ hb.size (by simp))
              have hwc := hWi1.cell hc4
              clear hS hWi hfs hwt hb oq
              refine wp_region_last (fun w' => w'.cell? ⟨g, c, none⟩ = some (.slice (W c).1 (L c).length (W c).2)) [(0, true), (1, true), (3, true), (4, true), (8, true), (9, true), (2, true), (5, true), (6, true), (7, true), (10, false), (11, false), (12, false), (13, false), (14, false)] 15 _ mixed (by kernel_rfl) rfl rfl (fun d v c a w h => by cases d <;> exact h) hwc ?_
              simp only [List.filterMap_cons, List.filterMap_nil, List.getElem?_cons_succ, List.getElem?_cons_zero, Option.map_some]
              generalize wr.drew = w1 at *
              have f0 := hfs1.cells _ _ (Cutp.flatF_get _ t hlt).1
              have f1 := hfs1.cells _ _ (Cutp.flatF_get _ t hlt).2.1
              have f2 := hfs1.cells _ _ (Cutp.flatF_get _ t hlt).2.2.1
              have f3 := hfs1.cells _ _ (Cutp.flatF_get _ t hlt).2.2.2
              simp only [← Nat.add_assoc] at f1 f2 f3
              generalize hff : fs[t] = f at *
              have HFF := Lib.hid hff
              clear hff
              have hLc := hLt c hc4
              have hLen : (L c).length + 1 ≤ 1000 := by omega
              iterate 6 ((with_reducible refine mixR_move ?_ ?_); (focus rfl))
              iterate 3 ((with_reducible refine mixR_free ?_ (v := ?_) (fun w' h' => ?_) ?_); (focus rfl); rotate_left; (focus (go_simp <;> with_reducible rfl)))
              ((with_reducible refine mixR_free ?_ (v := ?_) (fun w' h' => ?_) ?_); (focus rfl); rotate_left; (focus (go_simp <;> with_reducible rfl)))
              iterate 2 ((with_reducible refine mixR_op ?_ ?_); (focus rfl); intro K hK; go_step; refine hK _ _ hwc ?_; clear hK K)
              have oa : Only [] w1 (w1.alloc (.cells #[.bool f.b, .bool f.e, .int .i64 f.q, .string f.d] 33)) := (Only.refl _ _).alloc _
              have hg1 := lt_of_block hWi1.obj
              have hwc2 : (w1.alloc (.cells #[.bool f.b, .bool f.e, .int .i64 f.q, .string f.d] 33)).cell? ⟨g, c, none⟩ = some (.slice (W c).1 (L c).length (W c).2) := (World.cell?_of_block (oa.block g hg1 (by simp))).trans hwc
              ((with_reducible refine mixR_op ?_ ?_); (focus rfl); intro K hK; go_step; refine hK _ _ hwc2 ?_; clear hK K)
              with_reducible refine mixR_op ?_ ?_
              · rfl
              intro K hK
              refine wpO_append_sl _ (.tmp 80) (.tmp 85) 46 rfl 33 i39 _ 4 32 Try.underlying46 hi39 hz39 hsz39 hby39 rfl (W c).1 (L c).length (W c).2 _ rfl ((hWi1.sl c hc4).only oa (by simp)) ⟨_, 0, none⟩ 1 1 [.bool f.b, .bool f.e, .int .i64 f.q, .string f.d] rfl rfl (cells_new _ _ _) (Cutp.four_cells _ _ _ _) (by unfold maxLen; omega) (by omega) ?_
              intro ao' cap' w9 hs9 hg9 hb9
              have O9 : Only (blk (W c).1).toList w1 w9 := (oa.mono (by simp)).trans (Only.of_grown hg9 (fun i hi => by rw [hi]; simp))
              have hbb : blk ao' = blk (W c).1 ∨ ∀ k, blk ao' = some k → w1.heap.size ≤ k := by
                rcases hb9 with e | e
                · exact .inl e
                · right
                  intro k hk
                  rw [e] at hk
                  simp at hk
                  omega
              have hng : g ∉ (blk (W c).1).toList := fun hm => by
                have := (hWi1.own c hc4 g (by simpa using hm)).1
                omega
              have hwc9 : w9.cell? ⟨g, c, none⟩ = some (.slice (W c).1 (L c).length (W c).2) := (World.cell?_of_block (O9.block g hg1 hng)).trans hwc
              have hfz9 := frozen_of (O9.at hWi1.obj hng) c
              have hT := hWi1.turn hc4 (by simp) (l := L c ++ [f]) (ao := ao') (cap := cap') (by rw [List.length_append, flatF_app]; exact hs9) O9 hbb (fun x hx => by
                rcases List.mem_append.1 hx with hx | hx
                · exact hWi1.mem c hc4 x hx
                · rw [List.mem_singleton] at hx
                  exact ⟨t, hlt, by rw [hx, HFF.out]⟩) (by rw [List.length_append]; exact hLen)
              simp only [List.length_append, List.length_singleton] at hT
              have hnot : ∀ S : List Nat, (∀ k ∈ S, k < g) → ∀ k ∈ g :: (blk (W c).1).toList, k ∉ S := fun S hS k hk hm => by
                have h1 := hS k hm
                rcases List.mem_cons.1 hk with e | e
                · omega
                · have := (hWi1.own c hc4 k (by simpa using e)).1
                  omega
              have hL2 : ∀ j, j < 4 → (setN L c (L c ++ [f]) j).length ≤ t + 1 := fun j hj => by
                by_cases e : j = c
                · rw [e, setN_at, List.length_append]
                  exact Nat.succ_le_succ hLc
                · rw [setN_ne L _ e]
                  have := hLt j hj
                  omega
              have hS2 := hS1.only hT.2 (fun hm => hnot [p] (by have := HB3.out.2.1; simp; omega) p hm (by simp)) (fun hm => hnot [bl] (by have := HB3.out.2.1; simp; omega) bl hm (by simp)) (fun hm => hnot [bh] (by have := HB3.out.2.1; simp; omega) bh hm (by simp))
              have hfs2 := hfs1.only hT.2 (fun k hk hm => hnot [k] (by have := (HB3.out.2.2.1 k hk).2; simp; omega) k hm (by simp))
              have hwt2 := hwt1.only hT.2 (fun k hk hm => hnot [k] (by have := (HB3.out.2.2.2 k hk).2.1; simp; omega) k hm (by simp))
              have hb2 := hb1.trans (hT.2.below _ hb1.size (fun k hk => by
                have h1 := HB3.out.1.2.2.2
                rcases List.mem_cons.1 hk with e | e
                · omega
                · have := (hWi1.own c hc4 k (by simpa using e)).1
                  omega))
              have HREL := Lib.hid (And.intro hS2 (And.intro hT.1 (And.intro hL2 (And.intro hfs2 (And.intro hwt2 hb2)))))
              refine hK _ _ hwc9 ?_
              clear hK K hS2 hT hL2 hfs2 hwt2 hb2 hnot hs9 hg9 hb9 O9 hbb oa hS1 hWi1 hfs1 hwt1 hb1 f0 f1 f2 f3
              ((with_reducible refine mixR_op ?_ ?_); (focus rfl); intro K hK; go_step; refine hK _ _ hwc9 ?_; clear hK K)
              refine mixR_nil ?_
              intro _ K hK
              go_step
              refine hK _ _ ?_
              clear hK K
              go_wp2_with fail
              go_roundw
              case rel => exact ⟨t + 1, _, _, by go_num, by omega, HREL.out⟩
              case measure => simp [intOf]; omega
          · have d2 : decide (t < len3) = false := by simpa using h3
            go_upto_region 19 with fail
            have hcl : t % K < K := Nat.mod_lt t (by omega)
            have hci : (t : Int) % (K : Int) = ((t % K : Nat) : Int) := by rw [Int.natCast_emod]
            have hct : (t : Int).tmod (K : Int) = ((t % K : Nat) : Int) := by rw [Int.tmod_eq_emod_of_nonneg (by omega), hci]
            have nK : ¬ (K : Int) = 0 := by omega
            have nK2 : ¬ K = 0 := by omega
            generalize t % K = c at *
            have hc4 : c < 4 := by omega
            have hc4i : (c : Int) < 4 := by omega
            obtain ⟨gb, go, rfl⟩ := hfs.some (by omega)
            have oq : Only [] wr wr.drew := Only.drew (Only.refl [] wr)
            have hS1 := hS.only oq (by simp) (by simp) (by simp)
            have hWi1 := hWi.old oq (by simp) (by simp)
            have hfs1 := hfs.only oq (by simp)
            have hwt1 := hwt.only oq (by simp)
            have hb1 := hb.trans (oq.below _ hb.size (by simp))
            have hwc := hWi1.cell hc4
            clear hS hWi hfs hwt hb oq
            refine wp_region_last (fun w' => w'.cell? ⟨g, c, none⟩ = some (.slice (W c).1 (L c).length (W c).2)) [(0, true), (1, true), (3, true), (4, true), (8, true), (9, true), (2, true), (5, true), (6, true), (7, true), (10, false), (11, false), (12, false), (13, false), (14, false)] 15 _ mixed (by kernel_rfl) rfl rfl (fun d v c a w h => by cases d <;> exact h) hwc ?_
            simp only [List.filterMap_cons, List.filterMap_nil, List.getElem?_cons_succ, List.getElem?_cons_zero, Option.map_some]
            generalize wr.drew = w1 at *
            have f0 := hfs1.cells _ _ (Cutp.flatF_get _ t hlt).1
            have f1 := hfs1.cells _ _ (Cutp.flatF_get _ t hlt).2.1
            have f2 := hfs1.cells _ _ (Cutp.flatF_get _ t hlt).2.2.1
            have f3 := hfs1.cells _ _ (Cutp.flatF_get _ t hlt).2.2.2
            simp only [← Nat.add_assoc] at f1 f2 f3
            generalize hff : fs[t] = f at *
            have HFF := Lib.hid hff
            clear hff
            have hLc := hLt c hc4
            have hLen : (L c).length + 1 ≤ 1000 := by omega
            iterate 6 ((with_reducible refine mixR_move ?_ ?_); (focus rfl))
            iterate 3 ((with_reducible refine mixR_free ?_ (v := ?_) (fun w' h' => ?_) ?_); (focus rfl); rotate_left; (focus (go_simp <;> with_reducible rfl)))
            ((with_reducible refine mixR_free ?_ (v := ?_) (fun w' h' => ?_) ?_); (focus rfl); rotate_left; (focus (go_simp <;> with_reducible rfl)))
            iterate 2 ((with_reducible refine mixR_op ?_ ?_); (focus rfl); intro K hK; go_step; refine hK _ _ hwc ?_; clear hK K)
            have oa : Only [] w1 (w1.alloc (.cells #[.bool f.b, .bool f.e, .int .i64 f.q, .string f.d] 33)) := (Only.refl _ _).alloc _
            have hg1 := lt_of_block hWi1.obj
            have hwc2 : (w1.alloc (.cells #[.bool f.b, .bool f.e, .int .i64 f.q, .string f.d] 33)).cell? ⟨g, c, none⟩ = some (.slice (W c).1 (L c).length (W c).2) := (World.cell?_of_block (oa.block g hg1 (by simp))).trans hwc
            ((with_reducible refine mixR_op ?_ ?_); (focus rfl); intro K hK; go_step; refine hK _ _ hwc2 ?_; clear hK K)
            with_reducible refine mixR_op ?_ ?_
            · rfl
            intro K hK
            refine wpO_append_sl _ (.tmp 80) (.tmp 85) 46 rfl 33 i39 _ 4 32 Try.underlying46 hi39 hz39 hsz39 hby39 rfl (W c).1 (L c).length (W c).2 _ rfl ((hWi1.sl c hc4).only oa (by simp)) ⟨_, 0, none⟩ 1 1 [.bool f.b, .bool f.e, .int .i64 f.q, .string f.d] rfl rfl (cells_new _ _ _) (Cutp.four_cells _ _ _ _) (by unfold maxLen; omega) (by omega) ?_
            intro ao' cap' w9 hs9 hg9 hb9
            have O9 : Only (blk (W c).1).toList w1 w9 := (oa.mono (by simp)).trans (Only.of_grown hg9 (fun i hi => by rw [hi]; simp))
            have hbb : blk ao' = blk (W c).1 ∨ ∀ k, blk ao' = some k → w1.heap.size ≤ k := by
              rcases hb9 with e | e
              · exact .inl e
              · right
                intro k hk
                rw [e] at hk
                simp at hk
                omega
            have hng : g ∉ (blk (W c).1).toList := fun hm => by
              have := (hWi1.own c hc4 g (by simpa using hm)).1
              omega
            have hwc9 : w9.cell? ⟨g, c, none⟩ = some (.slice (W c).1 (L c).length (W c).2) := (World.cell?_of_block (O9.block g hg1 hng)).trans hwc
            have hfz9 := frozen_of (O9.at hWi1.obj hng) c
            have hT := hWi1.turn hc4 (by simp) (l := L c ++ [f]) (ao := ao') (cap := cap') (by rw [List.length_append, flatF_app]; exact hs9) O9 hbb (fun x hx => by
              rcases List.mem_append.1 hx with hx | hx
              · exact hWi1.mem c hc4 x hx
              · rw [List.mem_singleton] at hx
                exact ⟨t, hlt, by rw [hx, HFF.out]⟩) (by rw [List.length_append]; exact hLen)
            simp only [List.length_append, List.length_singleton] at hT
            have hnot : ∀ S : List Nat, (∀ k ∈ S, k < g) → ∀ k ∈ g :: (blk (W c).1).toList, k ∉ S := fun S hS k hk hm => by
              have h1 := hS k hm
              rcases List.mem_cons.1 hk with e | e
              · omega
              · have := (hWi1.own c hc4 k (by simpa using e)).1
                omega
            have hL2 : ∀ j, j < 4 → (setN L c (L c ++ [f]) j).length ≤ t + 1 := fun j hj => by
              by_cases e : j = c
              · rw [e, setN_at, List.length_append]
                exact Nat.succ_le_succ hLc
              · rw [setN_ne L _ e]
                have := hLt j hj
                omega
            have hS2 := hS1.only hT.2 (fun hm => hnot [p] (by have := HB3.out.2.1; simp; omega) p hm (by simp)) (fun hm => hnot [bl] (by have := HB3.out.2.1; simp; omega) bl hm (by simp)) (fun hm => hnot [bh] (by have := HB3.out.2.1; simp; omega) bh hm (by simp))
            have hfs2 := hfs1.only hT.2 (fun k hk hm => hnot [k] (by have := (HB3.out.2.2.1 k hk).2; simp; omega) k hm (by simp))
            have hwt2 := hwt1.only hT.2 (fun k hk hm => hnot [k] (by have := (HB3.out.2.2.2 k hk).2.1; simp; omega) k hm (by simp))
            have hb2 := hb1.trans (hT.2.below _ hb1.size (fun k hk => by
              have h1 := HB3.out.1.2.2.2
              rcases List.mem_cons.1 hk with e | e
              · omega
              · have := (hWi1.own c hc4 k (by simpa using e)).1
                omega))
            have HREL := Lib.hid (And.intro hS2 (And.intro hT.1 (And.intro hL2 (And.intro hfs2 (And.intro hwt2 hb2)))))
            refine hK _ _ hwc9 ?_
            clear hK K hS2 hT hL2 hfs2 hwt2 hb2 hnot hs9 hg9 hb9 O9 hbb oa hS1 hWi1 hfs1 hwt1 hb1 f0 f1 f2 f3
            ((with_reducible refine mixR_op ?_ ?_); (focus rfl); intro K hK; go_step; refine hK _ _ hwc9 ?_; clear hK K)
            refine mixR_nil ?_
            intro _ K hK
            go_step
            refine hK _ _ ?_
            clear hK K
            go_wp2_with fail
            go_roundw
            case rel => exact ⟨t + 1, _, _, by go_num, by omega, HREL.out⟩
            case measure => simp [intOf]; omega
        · have d1 : decide (t < fs.length) = false := by simpa using hlt
          have h3 := hS
          have hW3 := hWi
          have hwt3 := hwt
          have hb3 := hb
          clear hS hWi hwt hb hfs hLt hlt ht
          go_wp2_with fail
          clear d1
          go_loopw [19, 20] (fun x i wr => ∃ (t : Nat) (S : J) (got : List ByteArray) (aog : Option Addr) (capg : Nat) (W : Nat → Option Addr × Nat) (L : Nat → List Fr), i = .int .i64 t ∧ x = .slice aog got.length capg ∧ t ≤ 2000 ∧ PJ wr p bl bh S ∧ Lo fs R want S got ∧ Lk K t S ∧ Wires wr g W L fs (blk aog) ∧ Sl wr 9 1 aog got.length capg (got.map Value.string) ∧ (∀ k, blk aog = some k → g < k) ∧ Sl wr 9 1 aow want.length capw (want.map Value.string) ∧ Below w.heap.size w wr) (fun _ i _ => 2000 - (intOf i).toNat)
          case atStart => exact ⟨0, S0, [], none, 0, W, L, rfl, rfl, by omega, h3, HLO.out.1, HLO.out.2, hW3, Sl.nil _ _ _, by simp [blk], hwt3, hb3⟩
          case round =>
            clear h3 hW3 hwt3 hb3
            obtain ⟨t, S, got, aog, capg, W, L, rfl, rfl, ht, hS, hLo, hLk, hWi, hG, hGb, hwt, hb⟩ := hrel
            have hgl : got.length ≤ 12 := by
              have := hLo.told.length_le
              rw [List.length_append] at this
              omega
            by_cases hlt : t < 2000
            · have d1 : decide ((t : Int) < 2000) = true := by simp; omega
              have hci : (t : Int) % (K : Int) = ((t % K : Nat) : Int) := by rw [Int.natCast_emod]
              have nK : ¬ (K : Int) = 0 := by omega
              have hcl : t % K < K := Nat.mod_lt t (by omega)
              have HLo := Lib.hid (And.intro hLo hLk)
              clear hLo hLk
              go_upto_if 98 with fail
              go_cut [21] from 95 to 107 (fun v wx => wr = wx ∧ ∃ c : Nat, v = .int .i64 c ∧ c < K)
              case first =>
                have hcase : (∃ b4 off4 y, a4 = some ⟨b4, off4, none⟩ ∧ t < len4 ∧ wr.cell? ⟨b4, off4 + t, none⟩ = some (.int .i64 y)) ∨ ¬ t < len4 := by
                  by_cases h4 : t < len4
                  · obtain ⟨b4, off4, e4, hbl4, hc4, _, _⟩ := row_at w4 t h4
                    exact .inl ⟨b4, off4, _, e4, h4, (hb.cell hbl4).trans hc4⟩
                  · exact .inr h4
                rcases hcase with ⟨b4, off4, y, rfl, h4, hcr⟩ | h4
                · have d2 : decide (t < len4) = true := by simpa using h4
                  have hff : ∃ f : Nat, wrap64 ((IntKind.u64.wrap y).tmod (K : Int)) = f ∧ f < K := by
                    have u0 := u64_nonneg y
                    generalize IntKind.u64.wrap y = u at *
                    rw [Int.tmod_eq_emod_of_nonneg u0]
                    have e0 := Int.emod_nonneg u (show (K : Int) ≠ 0 by omega)
                    have e1 := Int.emod_lt_of_pos u (show (0 : Int) < K by omega)
                    obtain ⟨f, hf⟩ := Int.eq_ofNat_of_zero_le e0
                    refine ⟨f, ?_, by omega⟩
                    rw [hf]
                    exact IntWalk.wrap64_in _ (by omega)
                  obtain ⟨f, hf, hfK⟩ := hff
                  go_wp2_with fail
                  go_meet
                  case rel => exact ⟨rfl, f, by rw [hf], hfK⟩
                · have d2 : decide (t < len4) = false := by simpa using h4
                  go_wp2_with fail
                  go_meet
                  case rel => exact ⟨rfl, t % K, rfl, hcl⟩
              case rest =>
                obtain ⟨rfl, c, rfl, hcK⟩ := hcut
                have hc4 : c < 4 := by omega
                have hc4i : (c : Int) < 4 := by omega
                clear hci hcl
                have hwc := hWi.cell hc4
                by_cases hL0 : (L c).length = 0
                · rw [hL0] at hwc
                  go_wp2_with fail
                  go_roundw
                  case rel => exact ⟨t + 1, S, got, aog, capg, W, L, by go_num, rfl, by omega, hS, HLo.out.1, HLo.out.2.wait, hWi, hG, hGb, hwt, hb⟩
                  case measure => simp [intOf]; omega
                · obtain ⟨gb, go, hao⟩ := (hWi.sl c hc4).some (by omega)
                  have hslc := hWi.sl c hc4
                  rw [hao] at hwc hslc
                  obtain ⟨nn, hnn, hfn⟩ := hWi.mem c hc4 (L c)[0] (List.getElem_mem _)
                  have f0 := hslc.cells _ _ (Cutp.flatF_get (L c) 0 (by omega)).1
                  have f1 := hslc.cells _ _ (Cutp.flatF_get (L c) 0 (by omega)).2.1
                  have f2 := hslc.cells _ _ (Cutp.flatF_get (L c) 0 (by omega)).2.2.1
                  have f3 := hslc.cells _ _ (Cutp.flatF_get (L c) 0 (by omega)).2.2.2
                  simp only [Nat.zero_mul, Nat.zero_add, Nat.add_zero] at f0 f1 f2 f3
                  rw [hfn] at f0 f1 f2 f3
                  clear hfn
                  have hlk := HLo.out.2
                  have hpt := HLo.out.1.put c (hlk.has hcK) hnn hlk.short (by have := hlk.few; omega) (by have := hlk.sum; omega)
                  have hput := put_any p bl bh S c fs[nn] wr hS (by omega) (by omega) (by have := hlk.few; omega) (by have := hlk.sum; omega)
                  rw [hpt.1] at hput
                  have hlk2 := hlk.put hS.ok (by omega) c fs[nn]
                  have hol : (got ++ putO S c fs[nn]).length ≤ 12 := by
                    have := hpt.2.told.length_le
                    rw [List.length_append] at this
                    omega
                  have HPut := Lib.hid hput
                  have HLo2 := Lib.hid (And.intro hpt.2 hlk2)
                  have HLJ := Lib.hid hS.lt
                  rw [List.length_append] at hol
                  have hLc := hWi.len c hc4
                  have HLN := Lib.hid (show (L c).length = (L c).length from rfl)
                  generalize hnl : (L c).length = n at *
                  have dn : ((n : Int) == 0) = false := by simp; omega
                  have dn2 : ¬ (n : Int) = 0 := by omega
                  have hn1 : 1 ≤ n := by omega
                  clear hlk hpt hput hlk2 hS HLo hL0
                  generalize putS S c fs[nn] = S2 at *
                  generalize putO S c fs[nn] = o1 at *
                  generalize hff : fs[nn] = f at *
                  have HNL := Lib.hid hnl
                  clear hnl
                  go_wp2_with fail
                  refine HPut.out.mono ?_
                  rintro e w1 ⟨ao1, cap1, rfl, sl1, fr1, h1, o1', _⟩
                  have hpl := HB3.out.2.1
                  have hg0 := lt_of_block hWi.obj
                  have hXg : blk aog ≠ some g := fun e => by have := hGb g e; omega
                  have hWi1 := hWi.old o1' (fun k hk => by simp at hk; left; omega) hXg
                  have hG1 := hG.only o1' (fun k hk => by have := hGb k hk; simp; omega)
                  have hwt1 := hwt.only o1' (fun k hk => (HB3.out.2.2.2 k hk).2.2)
                  have hb1 := hb.trans (o1'.below _ hb.size (by have := HB3.out.1; simp; omega))
                  have hg1 : g < w1.heap.size := lt_of_block hWi1.obj
                  clear HPut f0 f1 f2 f3 hslc hWi hG hwt hb o1' fr1 hwc
                  go_upto_region 31 with (go_at_call 14; refine (num_any _ _).mono ?_; rintro e w' ⟨rfl, rfl⟩)
                  go_upto_region 32 with (at_builtin; refine wpList_append_src _ rfl (.tmp 127) (.tmp 128) 38 rfl 9 i9 (.string ⟨#[]⟩) 1 16 Try.underlying38 hi9 hz9 hsz9 hby9 rfl _ _ _ _ rfl hG1 _ _ _ _ rfl (str_src sl1) (by unfold maxLen; omega) (by omega) ?_; intro aog' capg' w6 hs6 hg6 hb6)
                  have o6 : Only (blk aog).toList w1 w6 := Only.of_grown hg6 (fun k hk => by rw [hk]; simp)
                  have hWi6 := hWi1.grow o6 hXg hb6
                  have hnb : ∀ k, k ∈ (blk aog).toList → g < k := fun k hk => hGb k (by simpa using hk)
                  have hGb6 : ∀ k, blk aog' = some k → g < k := fun k hk => by
                    rcases hb6 with e | e
                    · exact hGb k (e.symm.trans hk)
                    · rw [e] at hk; simp at hk; omega
                  have hG6 : Sl w6 9 1 aog' (got ++ o1).length capg' ((got ++ o1).map Value.string) := by rw [List.length_append, List.map_append]; exact hs6
                  have h6 := h1.only o6 (fun hm => by have := hnb p hm; omega) (fun hm => by have := hnb bl hm; omega) (fun hm => by have := hnb bh hm; omega)
                  have hwt6 := hwt1.only o6 (fun k hk hm => by have := hnb k hm; have := (HB3.out.2.2.2 k hk).2.1; omega)
                  have hb6' := hb1.trans (o6.below _ hb1.size (fun k hk => by have := hnb k hk; have := HB3.out.1.2.2.2; omega))
                  have hg6' : g < w6.heap.size := lt_of_block hWi6.obj
                  have hwc6 := hWi6.cell hc4
                  have hsl6 := hWi6.sl c hc4
                  rw [hao, HNL.out] at hwc6 hsl6
                  have hfz6 := frozen_of hWi6.obj c
                  clear hs6 hg6 hb6 hG1 sl1 hWi1 h1 hwt1 hb1 o6 hnb hGb hXg
                  have hlo6 := hsl6.lo 1 hn1
                  have oe : Only [] w6 (w6.alloc (.cells #[] 33)) := (Only.refl [] w6).alloc _
                  have hnil := sl_laid w6 #[] 33 4 0 rfl (by unfold maxLen; omega)
                  have hsr := frs_src (l := (L c).drop 1) (by have := hlo6.only oe (by simp); rw [flatF_tail] at this; exact this)
                  have hGx : ∀ k, blk aog' = some k → k < w6.heap.size := fun k hk => hG6.lt hk
                  have HX := Lib.hid (And.intro h6 (And.intro hWi6 (And.intro hG6 (And.intro hGb6 (And.intro hwt6 hb6')))))
                  have HE : Hid (Only [] w6 (w6.alloc (.cells #[] 33)) → ∀ (ao' : Option Addr) (capn : Nat) (w9 : World), Sl w9 33 4 ao' (0 + (n - 1)) capn ((#[] : Array Value).toList ++ Cutp.flatF ((L c).drop 1)) → (w6.alloc (.cells #[] 33)).grownBy w9 (blk (some (⟨w6.heap.size, 0, none⟩ : Addr))) → (blk ao' = blk (some (⟨w6.heap.size, 0, none⟩ : Addr)) ∨ blk ao' = some (w6.alloc (.cells #[] 33)).heap.size) →
                      w9.cell? ⟨g, c, none⟩ = some (.slice (some ⟨gb, go, none⟩) n (W c).2) ∧ w9.frozen? ⟨g, c, none⟩ = false ∧ Hid (PJ (w9.setCell ⟨g, c, none⟩ (.slice ao' (n - 1) capn)) p bl bh S2 ∧ Wires (w9.setCell ⟨g, c, none⟩ (.slice ao' (n - 1) capn)) g (setN W c (ao', capn)) (setN L c ((L c).drop 1)) fs (blk aog') ∧ Sl (w9.setCell ⟨g, c, none⟩ (.slice ao' (n - 1) capn)) 9 1 aog' (got ++ o1).length capg' ((got ++ o1).map Value.string) ∧ (∀ k, blk aog' = some k → g < k) ∧ Sl (w9.setCell ⟨g, c, none⟩ (.slice ao' (n - 1) capn)) 9 1 aow want.length capw (want.map Value.string) ∧ Below w.heap.size w (w9.setCell ⟨g, c, none⟩ (.slice ao' (n - 1) capn)))) := by
                    intro oe ao' capn w9 hs9 hg9 hb9
                    have hln : ((L c).drop 1).length = n - 1 := by rw [List.length_drop, HNL.out]
                    rw [Nat.zero_add] at hs9
                    have O9 : Only [] w6 w9 := oe.trans' (T := [w6.heap.size]) (Only.of_grown hg9 (fun k hk => by simp [blk] at hk; simp; omega)) (fun x hx => by right; simp at hx; omega)
                    have hbb : ∀ k, blk ao' = some k → w6.heap.size ≤ k := fun k hk => by
                      rcases hb9 with e | e
                      · rw [e] at hk; simp [blk] at hk; omega
                      · rw [e] at hk; simp at hk; omega
                    have hT := HX.out.2.1.turn hc4 hGx (l := (L c).drop 1) (ao := ao') (cap := capn) (by rw [hln]; exact hs9) (O9.mono (by simp)) (.inr hbb) (fun x hx => HX.out.2.1.mem c hc4 x (List.mem_of_mem_drop hx)) (by rw [hln]; omega)
                    rw [hln] at hT
                    obtain ⟨hT1, _⟩ := hT
                    have OT : Only [g] w6 (w9.setCell ⟨g, c, none⟩ (.slice ao' (n - 1) capn)) := (O9.mono (by simp)).setCell (.inl (by simp)) _
                    refine ⟨(World.cell?_of_block (O9.block g hg6' (by simp))).trans hwc6, frozen_of (O9.at HX.out.2.1.obj (by simp)) c, HX.out.1.only OT (by simp; omega) (by simp; omega) (by simp; omega), hT1, HX.out.2.2.1.only OT (fun k hk => by have := HX.out.2.2.2.1 k hk; simp; omega), HX.out.2.2.2.1, HX.out.2.2.2.2.1.only OT (fun k hk => by have := (HB3.out.2.2.2 k hk).2.1; simp; omega), HX.out.2.2.2.2.2.trans (OT.below _ HX.out.2.2.2.2.2.size (by have := HB3.out.1.2.2.2; simp; omega))⟩
                  clear hlo6 h6 hWi6 hG6 hGb6 hwt6 hb6' hsl6
                  go_wp2_with (at_builtin; refine wpList_append_src _ rfl (.tmp 131) (.tmp 135) 46 rfl 33 i39 _ 4 32 Try.underlying46 hi39 hz39 hsz39 hby39 rfl _ _ _ _ rfl hnil _ _ _ _ rfl hsr (by unfold maxLen; omega) (by omega) ?_; intro ao' capn w9 hs9 hg9 hb9; (have e9 := HE.out oe _ _ _ hs9 hg9 hb9); clear hs9 hg9 hb9; obtain ⟨hc9, hz9', hr9⟩ := e9)
                  go_roundw
                  case rel => exact ⟨t + 1, S2, got ++ o1, aog', capg', setN W c (ao', capn), setN L c ((L c).drop 1), by go_num, by rw [List.length_append], by omega, hr9.out.1, HLo2.out.1, HLo2.out.2, hr9.out.2.1, hr9.out.2.2.1, hr9.out.2.2.2.1, hr9.out.2.2.2.2.1, hr9.out.2.2.2.2.2⟩
                  case measure => simp [intOf]; omega
            · have d1 : decide ((t : Int) < 2000) = false := by simp; omega
              have hsub : got.Sublist want := (List.sublist_append_left got _).trans hLo.told
              have hp0 := pick_all want got hsub
              have hhl := fun wy (hy : PJ wy p bl bh S) => held_any p bl bh S wy hy
              have hfew := hLk.few
              have hkk : 0 + pick (want.drop 0) (got.drop 0) = got.length := by rw [List.drop_zero, List.drop_zero, hp0]; omega
              have d9 : decide ((S.held.length : Int) ≤ 16) = true := by simp; omega
              have HH := Lib.hid hhl
              have HD9 := Lib.hid (And.intro d9 hfew)
              clear hsub hp0 hhl hfew d9 hLo hLk hWi hGb
              go_wp2_with fail
              clear d1
              go_loopw [24, 25] (fun a i wz => ∃ (t u : Nat), i = .int .i64 t ∧ a = .int .i64 u ∧ t ≤ want.length ∧ u ≤ got.length ∧ u + pick (want.drop t) (got.drop u) = got.length ∧ Only [] wr wz) (fun _ i _ => want.length - (intOf i).toNat)
              case atStart => exact ⟨0, 0, rfl, rfl, by omega, by omega, hkk, Only.refl _ _⟩
              case round =>
                clear hkk
                obtain ⟨t, u, rfl, rfl, ht, hu, hk, oz⟩ := hrel
                have hS2 := hS.only oz (by simp) (by simp) (by simp)
                have hG2 := hG.only oz (by simp)
                have hwt2 := hwt.only oz (by simp)
                have hb2 := hb.trans (oz.below _ hb.size (by simp))
                by_cases hc : t < want.length ∧ u < got.length
                · obtain ⟨hc1, hc2⟩ := hc
                  have d1 : decide (t < want.length) = true := by simpa using hc1
                  have d2 : decide (u < got.length) = true := by simpa using hc2
                  obtain ⟨gb, go, rfl⟩ := hwt2.some (by omega)
                  obtain ⟨gc, gp, rfl⟩ := hG2.some (by omega)
                  have f0 : (want.map Value.string)[t]? = some (.string want[t]) := by simp [hc1]
                  have f1 : (got.map Value.string)[u]? = some (.string got[u]) := by simp [hc2]
                  have c0 := hwt2.cells _ _ f0
                  have c1 := hG2.cells _ _ f1
                  have hgd := List.drop_eq_getElem_cons hc2
                  rw [List.drop_eq_getElem_cons hc1, hgd] at hk
                  have hss := str_same want[t] got[u]
                  unfold pick at hk
                  generalize want[t] = x at *
                  generalize got[u] = y at *
                  have HOz := Lib.hid oz
                  clear f0 f1 hS2 hG2 hwt2 hb2 oz
                  by_cases hxy : x = y
                  · rw [if_pos hxy] at hk
                    have d3 : (x.toList == y.toList) = true := by rw [hss]; simpa using hxy
                    have HK := Lib.hid hk
                    clear hss hk hxy hgd
                    go_upto_region 37 with fail
                    refine wp_region_reads mixed (by kernel_rfl) ?_
                    iterate 9 ((with_reducible refine wpStill_op ?_ ?_ ?_); (focus kernel_rfl); (focus kernel_rfl); intro K hK; go_step; refine hK _ ?_; clear hK K)
                    refine wpStill_nil ?_
                    clear c0 c1
                    go_wp2_with fail
                    go_roundw
                    case rel => exact ⟨t + 1, u + 1, by go_num, by go_num, by omega, by omega, by have := HK.out; omega, HOz.out.drew⟩
                    case measure => simp [intOf]; omega
                  · rw [if_neg hxy, ← hgd] at hk
                    have d3 : (x.toList == y.toList) = false := by rw [hss]; simpa using hxy
                    have HK := Lib.hid hk
                    clear hss hk hxy hgd
                    go_upto_region 37 with fail
                    refine wp_region_reads mixed (by kernel_rfl) ?_
                    iterate 9 ((with_reducible refine wpStill_op ?_ ?_ ?_); (focus kernel_rfl); (focus kernel_rfl); intro K hK; go_step; refine hK _ ?_; clear hK K)
                    refine wpStill_nil ?_
                    clear c0 c1
                    go_wp2_with fail
                    go_roundw
                    case rel => exact ⟨t + 1, u, by go_num, by go_num, by omega, by omega, by have := HK.out; omega, HOz.out.drew⟩
                    case measure => simp [intOf]; omega
                · have hue : u = got.length := by
                    by_cases h1 : t < want.length
                    · have h2 : ¬ u < got.length := fun h => hc ⟨h1, h⟩
                      omega
                    · have e : want.drop t = [] := List.drop_eq_nil_of_le (by omega)
                      rw [e] at hk
                      have e2 : ∀ l : List ByteArray, pick [] l = 0 := fun l => by cases l <;> rfl
                      rw [e2] at hk
                      omega
                  have hl := HH.out wr hS2
                  have d9 := HD9.out.1
                  have d4 : ((u : Int) == (got.length : Int)) = true := by simp; omega
                  have hcase : (decide (t < want.length) = false) ∨ (decide (t < want.length) = true ∧ decide (u < got.length) = false) := by
                    by_cases h1 : t < want.length
                    · right
                      exact ⟨by simpa using h1, by simp; omega⟩
                    · left
                      simpa using h1
                  have HB9 := Lib.hid hb2
                  clear hc hk hS2 hG2 hwt2 hb2 oz hue
                  rcases hcase with d5 | ⟨d5, d6⟩
                  · go_wp2_with (go_at_call 23; refine hl.mono ?_; rintro e w' ⟨rfl, rfl⟩)
                    go_ret
                    exact ⟨by first | rfl | simp, HB9.out⟩
                  · go_wp2_with (go_at_call 23; refine hl.mono ?_; rintro e w' ⟨rfl, rfl⟩)
                    go_ret
                    exact ⟨by first | rfl | simp, HB9.out⟩
/- The row's step. -/
set_option maxRecDepth 100000 in
theorem lifted (os : Os) (started : os.Started) (H : Type) (enc : TypeId × Value → H) :
    ReturnsInHanded {} Try.checked os 4 .any (Rows.joinLossesSpec.pre6 enc Try.prog Try.f4 Rows.joinLossesRow.domain false) (Rows.joinLossesSpec.post enc Try.prog Try.f4 false true false false) := by
  refine returnsInHanded_of_change_sized (C := Try.checked) own started (by kernel_rfl) Try.func4
    (ChangeSpec.witness6 (enc := enc) (C := Try.checked) false ⟨#[], #[.slice none 0 0, .int .i64 0, .int .i64 0, .slice none 0 0, .slice none 0 0], []⟩ 8 (by kernel_rfl) (by kernel_rfl) (by kernel_rfl) (by kernel_rfl)) ?_
  intro W base args ds gs before hval0 hW hcnd hsz _
  have hval : ∀ (j : Nat) t v, Try.f4.params[j]? = some t → args[j]? = some v → Value.okWide Try.prog W .any base t v := hval0
  have hW' := hW
  obtain ⟨p, q, hA0, hV, rfl, hfz, hnd⟩ := hW
  have hA : DataW.TrodAll enc Try.prog W 0 (fun _ => true) true Try.f4.params.toList args.toList ds p := hA0
  rw [Try.params4] at hA hval
  obtain ⟨v0, vs0, d0, ds0, p0, q0, hargs, rfl, rfl, h0, r0⟩ := trodAll_cons hA
  obtain ⟨v1, vs1, d1, ds1, p1, q1, rfl, rfl, rfl, h1, r1⟩ := trodAll_cons r0
  obtain ⟨v2, vs2, d2, ds2, p2, q2, rfl, rfl, rfl, h2, r2⟩ := trodAll_cons r1
  obtain ⟨v3, vs3, d3, ds3, p3, q3, rfl, rfl, rfl, h3, r3⟩ := trodAll_cons r2
  obtain ⟨v4, vs4, d4, ds4, p4, q4, rfl, rfl, rfl, h4, r4⟩ := trodAll_cons r3
  obtain ⟨rfl, rfl, rfl⟩ := trodAll_nil r4
  obtain rfl : args = #[v0, v1, v2, v3, v4] := by cases args; simp_all
  obtain ⟨rfl, rfl⟩ := trodVars_none hV
  obtain ⟨a0, len0, cap0, rfl⟩ := okWide_slice Try.underlying38 (hval 0 38 v0 rfl rfl)
  have k0 := h0
  have lt0 : ∀ x ∈ p0, x.block < W.heap.size := by obtain ⟨m, hm⟩ := k0; exact DataW.trod_lt m _ _ _ hm
  obtain ⟨z0, w0⟩ : ∃ zs, StrRow W a0 len0 zs := by
    obtain ⟨fuel, hf⟩ := h0
    rcases open_strings Try.underlying38 Try.underlying9 (by kernel_rfl) hf with ⟨hcs, _⟩ | ⟨x, l, c, zs, hcs, _, hl, hm, hz, _, hcell, hws⟩
    · simp [Value.cells] at hcs
      obtain ⟨rfl, rfl, rfl⟩ := hcs
      exact ⟨[], .inl ⟨rfl, rfl⟩⟩
    · simp [Value.cells] at hcs
      obtain ⟨rfl, rfl, rfl⟩ := hcs
      exact ⟨zs, .inr ⟨_, rfl, Nat.le_trans hl hm, fun i hi => ⟨hcell i (by simp at hz; omega), hws _ (by rw [List.getD_eq_getElem?_getD, List.getElem?_eq_getElem (by simp at hz; omega)]; exact List.getElem_mem _)⟩⟩⟩
  obtain ⟨a1, rfl, rfl, rfl, w1⟩ := open_int Try.underlying3 (hval 1 3 v1 rfl rfl) h1
  obtain ⟨a2, rfl, rfl, rfl, w2⟩ := open_int Try.underlying3 (hval 2 3 v2 rfl rfl) h2
  obtain ⟨a3, len3, cap3, rfl⟩ := okWide_slice Try.underlying50 (hval 3 50 v3 rfl rfl)
  have k3 := h3
  have lt3 : ∀ x ∈ p3, x.block < W.heap.size := by obtain ⟨m, hm⟩ := k3; exact DataW.trod_lt m _ _ _ hm
  obtain ⟨z3, w3⟩ : ∃ zs, IsRow .i64 W a3 len3 cap3 zs := by
    obtain ⟨fuel, hf⟩ := h3
    rcases open_ints Try.underlying50 Try.underlying3 (by kernel_rfl) hf with ⟨hcs, _⟩ | ⟨x, l, c, zs, hcs, _, hl, hm, hz, _, hcell, hwz⟩
    · simp [Value.cells] at hcs
      obtain ⟨rfl, rfl, rfl⟩ := hcs
      exact ⟨[], .inl ⟨rfl, rfl, rfl, rfl⟩⟩
    · simp [Value.cells] at hcs
      obtain ⟨rfl, rfl, rfl⟩ := hcs
      exact ⟨zs, .inr ⟨_, rfl, hl, hm, by simpa using hz, hcell, hwz⟩⟩
  obtain ⟨a4, len4, cap4, rfl⟩ := okWide_slice Try.underlying50 (hval 4 50 v4 rfl rfl)
  have k4 := h4
  have lt4 : ∀ x ∈ p4, x.block < W.heap.size := by obtain ⟨m, hm⟩ := k4; exact DataW.trod_lt m _ _ _ hm
  obtain ⟨z4, w4⟩ : ∃ zs, IsRow .i64 W a4 len4 cap4 zs := by
    obtain ⟨fuel, hf⟩ := h4
    rcases open_ints Try.underlying50 Try.underlying3 (by kernel_rfl) hf with ⟨hcs, _⟩ | ⟨x, l, c, zs, hcs, _, hl, hm, hz, _, hcell, hwz⟩
    · simp [Value.cells] at hcs
      obtain ⟨rfl, rfl, rfl⟩ := hcs
      exact ⟨[], .inl ⟨rfl, rfl, rfl, rfl⟩⟩
    · simp [Value.cells] at hcs
      obtain ⟨rfl, rfl, rfl⟩ := hcs
      exact ⟨zs, .inr ⟨_, rfl, hl, hm, by simpa using hz, hcell, hwz⟩⟩
  clear hA0 hval0
  refine (walk a0 len0 cap0 z0 a1 w1 a2 w2 a3 len3 cap3 z3 a4 len4 cap4 z4 W w0 w3 w4).mono fun e W' ⟨he, bel⟩ => ?_
  subst he
  exact ⟨_, rfl, _, _, _, [], _, [], hW', trodAll_mk1 (shut_bool Try.underlying4 _), (trodAll_cons_mk (Below.trod laidOut (by kernel_rfl) (of_decide_eq_true (by kernel_rfl)) k0 bel lt0) (trodAll_cons_mk (shut_int Try.underlying3 w1) (trodAll_cons_mk (shut_int Try.underlying3 w2) (trodAll_cons_mk (Below.trod laidOut (by kernel_rfl) (of_decide_eq_true (by kernel_rfl)) k3 bel lt3) (trodAll_cons_mk (Below.trod laidOut (by kernel_rfl) (of_decide_eq_true (by kernel_rfl)) k4 bel lt4) trodAll_mk0))))), rfl, bel.frame _, fun h => by cases h⟩

theorem over : Rows.joinLossesRow.holds Try.pinned (OpenSpec.ofChange Rows.joinLossesSpec) :=
  OpenClaim.holds_of_wide 4 Try.f4 rfl rfl rfl rfl rfl rfl rfl ⟨rfl, rfl, rfl, rfl, rfl⟩ rfl rfl rfl rfl rfl (by kernel_rfl) Try.func4 (by kernel_rfl)
    (of_decide_eq_true (by kernel_rfl)) (by unfold Func.isWrapper; first | (rw [if_pos (by decide +kernel)]; kernel_rfl) | (rw [if_neg (by decide +kernel)]; exact ⟨rfl, rfl⟩))
    (fun os started H enc _ => lifted os started H enc)

/-- The statement. -/
theorem proved : Rows.JoinLossesSaid := over
#print axioms proved
end Go.Proofs.Ytcfgbfabokhjcaa.joinLosses

/- Proved here: withylaw19.JoinOrder returns true for every input and leaves its arguments as they were (the given statement Rows.JoinOrderSaid). Conditions: none. -/
import Derived.Test.YtcfgbfabokhjcaaRows
import Derived.Test.YtcfgbfabokhjcaaOrder
import Derived.Test.YtcfgbfabokhjcaaMask
import Derived.WalkKit
import Derived.Lib.Hide
import Derived.Deep.Cut
import Derived.StillTactics
import Derived.ProofKit
import Derived.OpenShut
import Derived.ShutString
import Derived.ChangeOld
import Derived.Below
namespace Go.Proofs.Ytcfgbfabokhjcaa.joinOrder
open Go.ChangeShapes Go.WideShapes Go.ChangeAt Go.RowKit
open Plain
open Go.ChangeMaps (open_string shut_string)
set_option linter.unusedVariables false

theorem own : ownKnob Try.prog.godebug = none := by kernel_rfl
theorem laidOut : laidOutB Try.prog = true := by kernel_rfl

/-- WHAT THE WALK IS TOLD OF A SLICE OF INTEGERS THAT CAME IN: it is nil; or it leads to a row of 'cap' cells, the numbers 'zs' (the first 'len' are its elements, the rest its spare room), each fitting its kind. -/
def IsRow (k : IntKind) (w : World) (a : Option Addr) (len cap : Nat) (zs : List Int) : Prop :=
  (a = none ∧ len = 0 ∧ cap = 0 ∧ zs = []) ∨
  ∃ x, a = some x ∧ len ≤ cap ∧ cap ≤ maxLen ∧ zs.length = cap ∧ (∀ i, i < zs.length → w.cell? (x.add i) = some (.int k (zs.getD i 0))) ∧ ∀ n ∈ zs, (Lit.int k n).wf = true

/-- an element of a row that came in. -/
theorem row_at {w : World} {a : Option Addr} {len cap : Nat} {zs : List Int} (h : IsRow .i64 w a len cap zs) (i : Nat) (hi : i < len) :
    ∃ b off, a = some ⟨b, off, none⟩ ∧ b < w.heap.size ∧ w.cell? ⟨b, off + i, none⟩ = some (.int .i64 (zs.getD i 0)) ∧ -9223372036854775808 ≤ zs.getD i 0 ∧ zs.getD i 0 ≤ 9223372036854775807 := by
  rcases h with ⟨_, rfl, _, _⟩ | ⟨x, rfl, hl, hm, hz, hcell, hwz⟩
  · omega
  · have hc := hcell i (by omega)
    obtain ⟨b, off, spot⟩ := x
    have hc0 := hcell 0 (by omega)
    have hspot : spot = none := by simpa [Addr.add] using World.cell?_spot hc0
    subst hspot
    rw [Addr.add_lit] at hc
    have hb := bounds_i64 (hwz (zs.getD i 0) (by rw [show zs.getD i 0 = zs[i]'(by omega) from by simp [List.getD, show i < zs.length by omega]]; exact List.getElem_mem _))
    exact ⟨b, off, rfl, World.block_lt_of_cell? w _ hc, hc, hb.1, hb.2⟩
theorem row_len {w : World} {a : Option Addr} {len cap : Nat} {zs : List Int} (h : IsRow .i64 w a len cap zs) : len ≤ 9223372036854775807 := by
  rcases h with ⟨_, rfl, _, _⟩ | ⟨x, rfl, hl, hm, _⟩
  · omega
  · unfold maxLen at hm; omega

/- The walk: the law's text returns true. -/
set_option maxRecDepth 100000 in
set_option maxHeartbeats 2000000 in
theorem walk (a0 : Option Addr) (len0 cap0 : Nat) (z0 : List Int) (a1 : Int) (w : World) (w0 : IsRow .i64 w a0 len0 cap0 z0) (w1 : (Lit.int .i64 a1).wf = true) :
    Calls Try.prog 5 #[.slice a0 len0 cap0, .int .i64 a1] w fun e w' => e = .returned (.bool true) ∧ Below w.heap.size w w' := by
  have L0 := and_7 a1
  have hlen0 := row_len w0
  clear w1
  obtain ⟨i9, hi9, hz9, hsz9, hby9⟩ := info_parts info9
  obtain ⟨i3, hi3, hz3, hsz3, hby3⟩ := info_parts info3
  go_enter Try.func5, Try.ntmps5
  go_wp2_with fail
  refine (awake_any w).mono ?_
  rintro e wa ⟨rfl, O0⟩
  have r31 : 0 ≤ a1 % 8 := by omega
  have r32 : a1 % 8 < 8 := by omega
  generalize a1 % 8 = q at *
  obtain ⟨kk, hkk⟩ := Int.eq_ofNat_of_zero_le r31
  subst hkk
  have hkk8 : kk < 8 := by omega
  have hmk : ∀ w, (Instr.makeSlice 50 (.int .i64 (1 + (kk : Int))) (.int .i64 (1 + (kk : Int)))).run Try.prog w = .ok (.slice (some ⟨w.heap.size, 0, none⟩) (kk + 1) (kk + 1)) (w.alloc (.cells (rowK (kk + 1) 0) 3)) := fun w => by
    have := makeInts (kk + 1) (by omega) w
    rw [show ((kk + 1 : Nat) : Int) = 1 + (kk : Int) by omega] at this
    exact this
  go_upto_region 4 with fail
  generalize hKK : 1 + (kk : Int) = K at *
  have hK1 : (kk : Int) + 1 ≤ K := by omega
  have hK2 : K ≤ (kk : Int) + 1 := by omega
  clear r31 r32 hKK
  go_wp2_with fail
  refine (new_good true 64 wa (by omega) (by omega)).mono ?_
  rintro e wb ⟨p, bl, bh, rfl, h0, o0, n1, n2, n3⟩
  have hOw := O0.size
  have HB1 := Lib.hid (And.intro n1 (And.intro n2 n3))
  have O1 : Below w.heap.size w wb := (O0.trans o0).below _ (Nat.le_refl _) (by simp)
  have HB2 := Lib.hid (show w.heap.size ≤ p ∧ w.heap.size ≤ bl ∧ w.heap.size ≤ bh from ⟨by omega, by omega, by omega⟩)
  clear L0 o0 O0 n1 n2 n3 hOw HB1
  go_wp2_with (go_at_call 14; refine (num_any _ _).mono ?_; rintro e w' ⟨rfl, rfl⟩)
  go_loopw [8] (fun i wr => ∃ t : Nat, i = .int .i64 t ∧ t ≤ (kk + 1) ∧ PJ wr p bl bh (addN t (J.new true 64)) ∧ Below w.heap.size w wr) (fun i _ => (kk + 1) - (intOf i).toNat)
  case atStart => exact ⟨0, rfl, by omega, h0, O1⟩
  case round =>
    clear h0 O1
    obtain ⟨t, rfl, ht, h0, O1⟩ := hrel
    by_cases hlt : t < (kk + 1)
    · have d0 : decide ((t : Int) < K) = true := by simp; omega
      go_wp2_with fail
      refine (add_any p bl bh _ (t : Int) wr h0 (by omega) (by omega)).mono ?_
      rintro e wc ⟨rfl, h1, o1⟩
      have O2 : Below w.heap.size w wc := O1.trans (o1.below _ O1.size (by have := HB2.out; simp; omega))
      clear h0 O1 o1
      go_wp2_with fail
      go_roundw
      case rel => exact ⟨t + 1, by go_num, by omega, h1, O2⟩
      case measure => simp [intOf]; omega
    · have d0 : decide ((t : Int) < K) = false := by simp; omega
      have ht2 : t = (kk + 1) := by omega
      rw [ht2] at h0
      clear ht2 hlt ht
      go_wp2_with fail
      clear hmk
      have hg0 := heap_alloc_new' wr (.cells (rowK (kk + 1) 0) 3)
      have h1 := h0.alloc (.cells (rowK (kk + 1) 0) 3)
      have O2 := O1.alloc O1.size (.cells (rowK (kk + 1) 0) 3)
      have hlJ := h0.lt
      have HB3 := HB2
      clear HB2
      have HB2 := Lib.hid (show w.heap.size ≤ p ∧ w.heap.size ≤ bl ∧ w.heap.size ≤ bh ∧ w.heap.size ≤ wr.heap.size ∧ p ≠ wr.heap.size ∧ bl ≠ wr.heap.size ∧ bh ≠ wr.heap.size from ⟨HB3.out.1, HB3.out.2.1, HB3.out.2.2, O1.size, by omega, by omega, by omega⟩)
      clear h0 O1 hlJ HB3 d0
      generalize World.alloc wr _ = wc at *
      generalize wr.heap.size = g at *
      have h0 := h1
      have O1 := O2
      clear h1 O2
      go_loopw [10] (fun i wr => ∃ t : Nat, i = .int .i64 t ∧ t ≤ kk + 1 ∧ PJ wr p bl bh (addN (kk + 1) (J.new true 64)) ∧ wr.heap[g]? = some (.cells (rowK (kk + 1) t) 3 (0, 0)) ∧ Below w.heap.size w wr) (fun i _ => kk + 1 - (intOf i).toNat)
      case atStart => exact ⟨0, rfl, by omega, h0, hg0, O1⟩
      case round =>
        clear h0 O1 hg0
        obtain ⟨t, rfl, ht, h0, hg, O1⟩ := hrel
        by_cases hlt : t < kk + 1
        · have d0 : decide ((t : Int) < K) = true := by simp; omega
          have hfz := frozen_of hg t
          have hce := cell_of hg t
          have hge : (rowK (kk + 1) t)[t]? = some (.int .i64 ((0 : Nat) : Int)) := by simp [rowK, hlt]
          rw [hge] at hce
          have hg2 : (wr.setCell ⟨g, t, none⟩ (.int .i64 t)).heap[g]? = some (.cells (rowK (kk + 1) (t + 1)) 3 (0, 0)) := by rw [heap_setCell_same hg, rowK_set _ _ hlt]
          have h2 := h0.only (show Only [g] wr (wr.setCell ⟨g, t, none⟩ (.int .i64 t)) from (Only.refl _ _).setCell (.inl (by simp)) _) (by have := HB2.out; simp; omega) (by have := HB2.out; simp; omega) (by have := HB2.out; simp; omega)
          have hb2 : Below w.heap.size w (wr.setCell ⟨g, t, none⟩ (.int .i64 t)) := O1.setCell (show w.heap.size ≤ g from HB2.out.2.2.2.1) _
          have HR := Lib.hid (And.intro h2 (And.intro hg2 hb2))
          clear h0 hg O1 h2 hg2 hb2 hge
          have ht1 : t < kk + 1 := hlt
          go_wp2_with fail
          go_roundw
          case rel => exact ⟨t + 1, by go_num, by omega, HR.out.1, HR.out.2.1, HR.out.2.2⟩
          case measure => simp [intOf]; omega
        have d0 : decide ((t : Int) < K) = false := by simp; omega
        have ht2 : t = kk + 1 := by omega
        have hl2 : PJ wr p bl bh (addN (kk + 1) (J.new true 64)) := h0
        have hPre := Pre.start kk hkk8 h0.ok
        have hSl : Sl wr 3 1 (some ⟨g, 0, none⟩) (List.range (kk + 1)).length (kk + 1) (intsV (List.range (kk + 1))) := by
          rw [ht2] at hg
          rw [List.length_range]
          refine ⟨by rw [intsV_len, List.length_range]; omega, Nat.le_refl _, by unfold maxLen; omega, .inr ⟨g, 0, _, rfl, hg, by simp [rowK], ?_⟩⟩
          rw [List.drop_zero, rowK_full, Nat.mul_one]
          exact List.take_of_length_le (by rw [intsV_len, List.length_range]; omega)
        have hGot := Got.nil wr w.heap.size p bl bh
        have hbg : ∀ k, blk (some (⟨g, 0, none⟩ : Addr)) = some k → w.heap.size ≤ k ∧ k ∉ [p, bl, bh] ∧ blk none ≠ some k := by
          intro k hk
          simp [blk] at hk
          subst hk
          have := HB2.out
          refine ⟨by omega, by simp; omega, by simp [blk]⟩
        have hsl0 : (List.range (kk + 1)).length = kk + 1 := List.length_range
        have hst0 : 0 ∈ List.range (kk + 1) := by simp
        have hnd : (List.range (kk + 1)).Nodup := List.nodup_range
        have hlt1 : ∀ x ∈ List.range (kk + 1), x < kk + 1 := fun x hx => List.mem_range.1 hx
        clear hg ht2 hlt ht
        have HGK := Lib.hid (And.intro hPre (And.intro hSl (And.intro hGot (And.intro hbg (And.intro hnd (And.intro hlt1 (And.intro hsl0 (fun _ : 0 < kk + 1 => hst0))))))))
        clear hPre hSl hGot hbg hnd hlt1 hsl0 h0 hst0
        generalize (List.range (kk + 1)) = l0 at *
        go_wp2_with fail
        go_loopw [9, 11, 12] (fun x y i wr => ∃ (t n : Nat) (l : List Nat) (S : J) (got : List ByteArray) (aog : Option Addr) (capg : Nat) (aol : Option Addr) (capl : Nat), i = .int .i64 t ∧ t + l.length ≤ kk + 1 ∧ x = .slice aol l.length capl ∧ y = .slice aog got.length capg ∧ PJ wr p bl bh S ∧ Pre (kk + 1) l n S ∧ (n < kk + 1 → n ∈ l) ∧ got = (List.range n).map pd ∧ Sl wr 3 1 aol l.length capl (intsV l) ∧ l.Nodup ∧ (∀ x ∈ l, x < kk + 1) ∧ (∀ k, blk aol = some k → w.heap.size ≤ k ∧ k ∉ [p, bl, bh] ∧ blk aog ≠ some k) ∧ Got wr w.heap.size p bl bh aog capg got ∧ Below w.heap.size w wr) (fun x _ _ _ => lenV x)
        case atStart => exact ⟨0, 0, l0, _, [], none, 0, _, _, rfl, by have := HGK.out.2.2.2.2.2.2.1; omega, by have := HGK.out.2.2.2.2.2.2.1; rw [this], rfl, hl2, HGK.out.1, HGK.out.2.2.2.2.2.2.2, rfl, HGK.out.2.1, HGK.out.2.2.2.2.1, HGK.out.2.2.2.2.2.1, HGK.out.2.2.2.1, HGK.out.2.2.1, O1⟩
        case round =>
          clear hl2 O1 HGK d0
          obtain ⟨t, n, l, S, got, aog, capg, aol, capl, rfl, htl, rfl, rfl, hS, hP, hst, hgt, hsl, hnd, hlk, hbn0, hG, hb⟩ := hrel
          have HGT := Lib.hid hgt
          have hn8 := hP.nk
          have hgl : got.length ≤ n := by rw [hgt, List.length_map, List.length_range]; omega
          have hgl' : n ≤ got.length := by rw [hgt, List.length_map, List.length_range]; omega
          clear hgt
          by_cases hlt : 0 < l.length
          rotate_left
          · have hl0 : l = [] := List.eq_nil_of_length_eq_zero (by omega)
            rw [hl0] at hP hst
            obtain ⟨e1, e2, e3⟩ := hP.done hst
            have d0 : decide (0 < l.length) = false := by simp; omega
            have hhl := held_any p bl bh S wr hS
            have hll := lost_any p bl bh S wr hS
            rw [e2] at hhl
            rw [e3] at hll
            have d1 : ((got.length : Int) != K) = false := by simp; omega
            have HNK := Lib.hid e1
            have hgk : got.length ≤ kk + 1 := by omega
            clear hl0 hP hst e1 e2 e3 hsl hnd hlk hbn0 hlt
            go_wp2_with (first | (go_at_call 23; refine hhl.mono ?_; rintro e w' ⟨rfl, rfl⟩) | (go_at_call 25; refine hll.mono ?_; rintro e w' ⟨rfl, rfl⟩))
            clear hhl hll d1 hgk
            go_loopw [18] (fun i wz => ∃ t : Nat, i = .int .i64 t ∧ t ≤ kk + 1 ∧ Got wz w.heap.size p bl bh aog capg got ∧ Below w.heap.size w wz) (fun i _ => kk + 1 - (intOf i).toNat)
            case atStart => exact ⟨0, rfl, by omega, hG, hb⟩
            case round =>
              clear hG hb d0 hS
              obtain ⟨t, rfl, ht, hG, hb⟩ := hrel
              by_cases hlt : t < kk + 1
              · have d0 : decide ((t : Int) < K) = true := by simp; omega
                have hge : got[t]? = some (pd t) := by rw [HGT.out, HNK.out, List.getElem?_map, List.getElem?_range hlt]; rfl
                have hgcc : (got.map Value.string)[t]? = some (.string ((⟨#[112]⟩ : ByteArray) ++ dec t)) := by rw [List.getElem?_map, hge]; rfl
                obtain ⟨gb, go, rfl⟩ := hG.1.some (by rw [HGT.out, List.length_map, List.length_range, HNK.out]; omega)
                have hlg : t < got.length := by rw [HGT.out, List.length_map, List.length_range, HNK.out]; omega
                have HC := Lib.hid (fun w' (h : Got w' w.heap.size p bl bh (some ⟨gb, go, none⟩) capg got) => h.1.cells t _ hgcc)
                clear hge hgcc
                go_wp2_with fail
                refine wp_region_mix (fun w' => Got w' w.heap.size p bl bh (some ⟨gb, go, none⟩) capg got) [(0, true), (1, true), (4, true), (2, true), (3, true), (5, false), (6, false), (7, false)] mixed (by kernel_rfl) (fun d v c a w h => by cases d <;> exact h) (hG.only (Only.drew (Only.refl [] _)) (by simp)) ?_
                simp only [List.filterMap_cons, List.filterMap_nil, List.getElem?_cons_succ, List.getElem?_cons_zero, Option.map_some]
                have hG1 := hG.only (Only.drew (Only.refl [] _)) (by simp)
                have hb1 := hb.drew
                clear hG hb
                generalize wr.drew = w1 at *
                iterate 3 ((with_reducible refine mix_move ?_ ?_); (focus rfl))
                ((with_reducible refine mix_free ?_ (v := ?_) (fun w' h' => ?_) ?_); (focus rfl); rotate_left; (focus (go_simp <;> with_reducible rfl)))
                ((with_reducible refine mix_free ?_ (v := ?_) (fun w' h' => ?_) ?_); (focus rfl); rotate_left; (focus (have c4 := HC.out _ h'; go_simp <;> with_reducible rfl)))
                with_reducible refine mix_op ?_ ?_
                · rfl
                intro K hK
                go_step
                refine (decimal_any t (by omega) _).mono ?_
                rintro e w2 ⟨rfl, ho⟩
                have hG2 := hG1.only ho (by simp)
                have hb2 : Below w.heap.size w w2 := hb1.trans (ho.below _ hb1.size (by simp))
                refine hK _ _ hG2 ?_
                clear hK K hG1 hb1 ho
                have hcs : ¬ 9223372036854775807 < 1 + (dec t).size := by have := dec_size t; omega
                iterate 2 ((with_reducible refine mix_op ?_ ?_); (focus rfl); intro K hK; go_step; refine hK _ _ hG2 ?_; clear hK K)
                refine mix_nil ?_
                go_wp2_with fail
                go_roundw
                case rel => exact ⟨t + 1, by go_num, by omega, hG2, hb2⟩
                case measure => simp [intOf]; omega
              · have d0 : decide ((t : Int) < K) = false := by simp; omega
                clear hG
                go_wp2_with fail
                go_ret
                exact ⟨by first | rfl | simp, hb⟩
          have d0 : decide (0 < l.length) = true := by simpa using hlt
          have hl8 : l.length ≤ 8 := by omega
          go_upto_if 58 with fail
          go_cut [13] from 55 to 68 (fun v wx => wr = wx ∧ ∃ q : Nat, v = .int .i64 q ∧ q < l.length)
          case first =>
            by_cases hp0 : t < len0
            · have d1 : decide (t < len0) = true := by simpa using hp0
              obtain ⟨b0, off0, rfl, hbl0, hc0, hz1, hz2⟩ := row_at w0 t hp0
              have hcr : wr.cell? ⟨b0, off0 + t, none⟩ = some (.int .i64 (z0.getD t 0)) := (hb.cell hbl0).trans hc0
              generalize z0.getD t 0 = y at *
              have U1 := u64_nonneg y
              obtain ⟨q, hq⟩ : ∃ q, (IntKind.u64.wrap y).tmod l.length = q := ⟨_, rfl⟩
              have hq' : IntKind.u64.wrap y % l.length = q := by rw [← hq]; exact (Int.tmod_eq_emod_of_nonneg U1).symm
              have r21 := Int.emod_nonneg (IntKind.u64.wrap y) (show (l.length : Int) ≠ 0 by omega)
              have r22 := Int.emod_lt_of_pos (IntKind.u64.wrap y) (show 0 < (l.length : Int) by omega)
              rw [hq'] at r21 r22
              have hl00 : ¬ ((l.length : Int) = 0) := by omega
              go_wp2_with fail
              go_meet
              case rel =>
                exact ⟨rfl, q.toNat, by congr 1; omega, by omega⟩
            · have d1 : decide (t < len0) = false := by simpa using hp0
              go_wp2_with fail
              go_meet
              case rel => exact ⟨rfl, 0, rfl, hlt⟩
          case rest =>
            obtain ⟨rfl, q, rfl, hql⟩ := hcut
            obtain ⟨lb, lo, rfl⟩ := hsl.some (by omega)
            have hlc := hsl.cells q _ (intsV_get l q hql)
            have hsk : l[q] < kk + 1 := hlk _ (List.getElem_mem hql)
            have hcm := cut_mem hnd hql
            have hpp := hP.put (List.getElem_mem hql) hsk hcm
            obtain ⟨hE, n', hn1, hP', hst', hO⟩ := hpp
            have hcnt := hP.count
            have HPut := Lib.hid (fun wx (hx : PJ wx p bl bh S) => put_at (b := true) (e := true) (q := (l[q] : Nat) % 4096) (d := pd l[q]) (T := putS S (l[q] : Nat) (wp l[q])) (outs := putO S (l[q] : Nat) (wp l[q])) (code := 0) hx (link := (l[q] : Nat)) (by omega) (by omega) (by omega) (by rw [hP.lost]; omega) rfl hE rfl)
            have HNext := Lib.hid (And.intro hn1 (And.intro hP' (And.intro hst' hO)))
            have HCut := Lib.hid (And.intro (cut_nodup hnd (p := q)) (And.intro (cut_length hql) (fun x (hx : x ∈ l.take q ++ l.drop (q + 1)) => hlk x ((hcm x).1 hx).1)))
            have hol : (putO S (l[q] : Nat) (wp l[q])).length ≤ 8 := by rw [hO, List.length_map, List.length_range']; have := hP'.nk; omega
            clear hE hn1 hP' hst' hO hcm hP hst hnd hlk hcnt
            generalize putS S (l[q] : Nat) (wp l[q]) = S2 at *
            generalize putO S (l[q] : Nat) (wp l[q]) = outs at *
            generalize l[q] = s at *
            have hlJ := hS.lt
            go_wp2_with fail
            refine (decimal_any s (by omega) _).mono ?_
            rintro e w2 ⟨rfl, ho⟩
            have hS2 := hS.only ho (by simp) (by simp) (by simp)
            have hG2 := hG.only ho (by simp)
            have hsl2 := hsl.only ho (by simp)
            have hb2 : Below w.heap.size w w2 := hb.trans (ho.below _ hb.size (by simp))
            clear hS hG hsl hb ho hlc
            have hcs : ¬ 9223372036854775807 < 1 + (dec s).size := by have := dec_size s; omega
            go_wp2_with fail
            refine (whole_any _ _ _).mono ?_
            rintro e w3 ⟨rfl, ho⟩
            have hS3 := hS2.only ho (by simp) (by simp) (by simp)
            have hG3 := hG2.only ho (by simp)
            have hsl3 := hsl2.only ho (by simp)
            have hb3 : Below w.heap.size w w3 := hb2.trans (ho.below _ hb2.size (by simp))
            clear hS2 hG2 hsl2 hb2 ho
            have HP := Lib.hid (HPut.out w3 hS3)
            clear HPut
            go_wp2_with fail
            refine HP.out.mono ?_
            rintro e w4 ⟨ao4, cap4, rfl, sl4, fr4, h4, o4, _⟩
            have hG4 := hG3.only o4 (by simp)
            have hsl4 := hsl3.only o4 (fun k hk => (hbn0 k hk).2.1)
            have hb4 : Below w.heap.size w w4 := hb3.trans (o4.below _ hb3.size (by have := HB2.out; simp; omega))
            have hlJ4 := h4.lt
            clear hS3 hG3 hsl3 hb3 HP hlJ fr4 o4
            go_upto_region 28 with (first | (go_at_call 14; refine (num_any _ _).mono ?_; rintro e w' ⟨rfl, rfl⟩) | (at_builtin; refine wpList_append_src _ rfl (.tmp 87) (.tmp 88) 38 rfl 9 i9 (.string ⟨#[]⟩) 1 16 Try.underlying38 hi9 hz9 hsz9 hby9 rfl _ _ _ _ rfl hG4.1 _ _ _ _ rfl (str_src sl4) (by unfold maxLen; omega) (by omega) ?_; intro aog' capg' w6 hs6 hg6 hb6))
            obtain ⟨hG5, o5⟩ := hG4.app hb4.size hlJ4 hs6 hg6 hb6
            have hbn : ∀ k, blk aog = some k → w.heap.size ≤ k ∧ k ∉ [p, bl, bh] := hG4.2
            have h5 := h4.only o5 (by cases hk : blk aog with | none => simp | some k => have := (hbn k hk).2; simp at this ⊢; omega) (by cases hk : blk aog with | none => simp | some k => have := (hbn k hk).2; simp at this ⊢; omega) (by cases hk : blk aog with | none => simp | some k => have := (hbn k hk).2; simp at this ⊢; omega)
            have hsl5 := hsl4.only o5 (fun k hk => by have := (hbn0 k hk).2.2; cases hk2 : blk aog with | none => simp | some k2 => simp; intro e; subst e; exact this hk2)
            have hb5 : Below w.heap.size w w6 := hb4.trans (o5.below _ hb4.size (by cases hk : blk aog with | none => simp | some k => have := (hbn k hk).1; simp; omega))
            have hbn5 : ∀ k, blk (some ⟨lb, lo, none⟩ : Option Addr) = some k → w.heap.size ≤ k ∧ k ∉ [p, bl, bh] ∧ blk aog' ≠ some k := fun k hk => by
              obtain ⟨x1, x2, x3⟩ := hbn0 k hk
              refine ⟨x1, x2, ?_⟩
              rcases hb6 with e | e
              · rw [e]; exact x3
              · rw [e]; simp; have := hsl4.lt hk; omega
            clear hs6 hg6 hb6 hG4 hb4 h4 o5 hbn hbn0 sl4 hsl4
            have hnil : Sl w6 3 1 none 0 0 ([] : List Value) := Sl.nil _ _ _
            have hlJ5 := h5.lt
            have hsa := hsl5.hi q (by omega)
            rw [intsV_take] at hsa
            have hqc : q ≤ capl := by have := hsl5.2.1; omega
            go_upto_region 30 with (at_builtin; refine wpList_append_src _ rfl (.tmp 90) (.tmp 93) 50 rfl 3 i3 (.int .i64 0) 1 8 Try.underlying50 hi3 hz3 hsz3 hby3 rfl _ _ _ _ rfl hnil _ _ _ _ rfl (hsa.src (fun u hu => by obtain ⟨b, _, rfl⟩ := List.mem_map.1 hu; rfl)) (by unfold maxLen; omega) (by omega) ?_; intro ao7 cap7 w7 hs7 hg7 hb7)
            have O67 : Only [] w6 w7 := Only.of_grown hg7 (by simp [blk])
            have hsl7 := hsl5.only O67 (by simp)
            clear hsa hnil hsl5
            have hq1 : q + 1 ≤ l.length := hql
            have hnc : l.length ≤ capl := hsl7.2.1
            have hsx := hsl7.lo (q + 1) hq1
            rw [intsV_drop, Nat.mul_one] at hsx
            rw [Nat.zero_add] at hs7
            go_wp2_with (at_builtin; refine wpList_append_src _ rfl (.tmp 95) (.tmp 99) 50 rfl 3 i3 (.int .i64 0) 1 8 Try.underlying50 hi3 hz3 hsz3 hby3 rfl _ _ _ _ rfl hs7 _ _ _ _ rfl (hsx.src (fun u hu => by obtain ⟨b, _, rfl⟩ := List.mem_map.1 hu; rfl)) (by unfold maxLen; omega) (by omega) ?_; intro ao8 cap8 w8 hs8 hg8 hb8)
            have hb7' : ∀ k, blk ao7 = some k → w6.heap.size ≤ k := by
              intro k hk
              rcases hb7 with e | e
              · rw [e] at hk; simp [blk] at hk
              · rw [e] at hk; simp at hk; omega
            have O68 : Only [] w6 w8 := O67.trans' (Only.of_grown (S := match blk ao7 with | some k => [k] | none => []) hg8 (fun k hk => by rw [hk]; simp)) (by
              cases hk : blk ao7 with
              | none => simp
              | some k => have := hb7' k hk; simp; omega)
            have hb8' : ∀ k, blk ao8 = some k → w6.heap.size ≤ k := by
              intro k hk
              rcases hb8 with e | e
              · exact hb7' k (e.symm.trans hk)
              · rw [e] at hk; simp at hk; have := O67.size; omega
            have h8 := h5.only O68 (by simp) (by simp) (by simp)
            have hG8 := hG5.only O68 (by simp)
            have hb9 : Below w.heap.size w w8 := hb5.trans (O68.below _ hb5.size (by simp))
            obtain ⟨cn, cl, ck⟩ := HCut.out
            have e8 : q + (l.length - (q + 1)) = (l.take q ++ l.drop (q + 1)).length := by omega
            have hs8' : Sl w8 3 1 ao8 (l.take q ++ l.drop (q + 1)).length cap8 (intsV (l.take q ++ l.drop (q + 1))) := by
              rw [e8] at hs8
              have : intsV (l.take q ++ l.drop (q + 1)) = [] ++ intsV (l.take q) ++ intsV (l.drop (q + 1)) := by simp [intsV]
              rw [this]
              exact hs8
            have hbn8 : ∀ k, blk ao8 = some k → w.heap.size ≤ k ∧ k ∉ [p, bl, bh] ∧ blk aog' ≠ some k := fun k hk => by
              have := hb8' k hk
              have hsz := hb5.size
              refine ⟨by omega, by simp; omega, fun e => ?_⟩
              have := hG5.1.lt e
              omega
            have HEND := Lib.hid (And.intro h8 (And.intro hG8 (And.intro hb9 (And.intro hs8' (And.intro hbn8 (And.intro cn ck))))))
            have HE8 := Lib.hid e8
            have HCL := Lib.hid cl
            have HGT2 := Lib.hid (show got ++ outs = (List.range n').map pd by rw [HGT.out, HNext.out.2.2.2, got_on HNext.out.1])
            clear h8 hG8 hb9 hs8' hbn8 cn ck h5 hG5 hb5 hbn5 hs7 hg7 hb7 hb7' hs8 hg8 hb8 hb8' hsx O67 O68 hsl7 e8 cl
            generalize l.take q ++ l.drop (q + 1) = l2 at *
            go_wp2_with fail
            go_roundw
            case rel =>
              obtain ⟨h8, hG8, hb9, hs8', hbn8, cn, ck⟩ := HEND.out
              exact ⟨t + 1, n', l2, S2, got ++ outs, aog', capg', ao8, cap8, by go_num, by have := HCL.out; omega, by rw [← HE8.out], by rw [List.length_append], h8, HNext.out.2.1, HNext.out.2.2.1, HGT2.out, hs8', cn, ck, hbn8, hG8, hb9⟩
            case measure =>
              have := HCL.out
              have := HE8.out
              simp [lenV]
              omega

/- The row's step. -/
set_option maxRecDepth 100000 in
theorem lifted (os : Os) (started : os.Started) (H : Type) (enc : TypeId × Value → H) :
    ReturnsInHanded {} Try.checked os 5 .any (Rows.joinOrderSpec.pre6 enc Try.prog Try.f5 Rows.joinOrderRow.domain false) (Rows.joinOrderSpec.post enc Try.prog Try.f5 false true false false) := by
  refine returnsInHanded_of_change (C := Try.checked) own started (by kernel_rfl) Try.func5
    (ChangeSpec.witness6 (enc := enc) (C := Try.checked) false ⟨#[], #[.slice none 0 0, .int .i64 0], []⟩ 8 (by kernel_rfl) (by kernel_rfl) (by kernel_rfl) (by kernel_rfl)) ?_
  intro W base args ds gs before hval0 hW hcnd _
  have hval : ∀ (j : Nat) t v, Try.f5.params[j]? = some t → args[j]? = some v → Value.okWide Try.prog W .any base t v := hval0
  have hW' := hW
  obtain ⟨p, q, hA0, hV, rfl, hfz, hnd⟩ := hW
  have hA : DataW.TrodAll enc Try.prog W 0 (fun _ => true) true Try.f5.params.toList args.toList ds p := hA0
  rw [Try.params5] at hA hval
  obtain ⟨v0, vs0, d0, ds0, p0, q0, hargs, rfl, rfl, h0, r0⟩ := trodAll_cons hA
  obtain ⟨v1, vs1, d1, ds1, p1, q1, rfl, rfl, rfl, h1, r1⟩ := trodAll_cons r0
  obtain ⟨rfl, rfl, rfl⟩ := trodAll_nil r1
  obtain rfl : args = #[v0, v1] := by cases args; simp_all
  obtain ⟨rfl, rfl⟩ := trodVars_none hV
  obtain ⟨a0, len0, cap0, rfl⟩ := okWide_slice Try.underlying50 (hval 0 50 v0 rfl rfl)
  have k0 := h0
  have lt0 : ∀ x ∈ p0, x.block < W.heap.size := by obtain ⟨m, hm⟩ := k0; exact DataW.trod_lt m _ _ _ hm
  obtain ⟨z0, w0⟩ : ∃ zs, IsRow .i64 W a0 len0 cap0 zs := by
    obtain ⟨fuel, hf⟩ := h0
    rcases open_ints Try.underlying50 Try.underlying3 (by kernel_rfl) hf with ⟨hcs, _⟩ | ⟨x, l, c, zs, hcs, _, hl, hm, hz, _, hcell, hwz⟩
    · simp [Value.cells] at hcs
      obtain ⟨rfl, rfl, rfl⟩ := hcs
      exact ⟨[], .inl ⟨rfl, rfl, rfl, rfl⟩⟩
    · simp [Value.cells] at hcs
      obtain ⟨rfl, rfl, rfl⟩ := hcs
      exact ⟨zs, .inr ⟨_, rfl, hl, hm, by simpa using hz, hcell, hwz⟩⟩
  obtain ⟨a1, rfl, rfl, rfl, w1⟩ := open_int Try.underlying3 (hval 1 3 v1 rfl rfl) h1
  clear hA0 hval0
  refine (walk a0 len0 cap0 z0 a1 W w0 w1).mono fun e W' ⟨he, bel⟩ => ?_
  subst he
  exact ⟨_, rfl, _, _, _, [], _, [], hW', trodAll_mk1 (shut_bool Try.underlying4 _), (trodAll_cons_mk (Below.trod laidOut (by kernel_rfl) (of_decide_eq_true (by kernel_rfl)) k0 bel lt0) (trodAll_cons_mk (shut_int Try.underlying3 w1) trodAll_mk0)), rfl, bel.frame _, fun h => by cases h⟩

theorem over : Rows.joinOrderRow.holds Try.pinned (OpenSpec.ofChange Rows.joinOrderSpec) :=
  OpenClaim.holds_of_wide 5 Try.f5 rfl rfl rfl rfl rfl rfl rfl ⟨rfl, rfl, rfl, rfl, rfl⟩ rfl rfl rfl rfl rfl (by kernel_rfl) Try.func5 (by kernel_rfl)
    (of_decide_eq_true (by kernel_rfl)) (by unfold Func.isWrapper; first | (rw [if_pos (by decide +kernel)]; kernel_rfl) | (rw [if_neg (by decide +kernel)]; exact ⟨rfl, rfl⟩))
    (fun os started H enc _ => lifted os started H enc)

/-- The statement. -/
theorem proved : Rows.JoinOrderSaid := over
#print axioms proved
end Go.Proofs.Ytcfgbfabokhjcaa.joinOrder

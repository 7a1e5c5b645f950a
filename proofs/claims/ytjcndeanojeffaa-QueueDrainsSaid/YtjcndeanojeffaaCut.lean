/- The contract of split.Cut, its loops. -/
import Derived.Test.YtjcndeanojeffaaCutFns
namespace Go.Proofs.Ytjcndeanojeffaa
open Go.RowKit
open Plain

theorem four_cells (a b : Bool) (c : Int) (d : ByteArray) : ∀ u ∈ [Value.bool a, Value.bool b, Value.int .i64 c, Value.string d], u.oneCell' = true := by
  intro u hu
  simp at hu
  rcases hu with rfl | rfl | rfl | rfl <;> rfl

/-- one fragment more. -/
theorem cut_step (s r : ByteArray) (z : Nat → Int) (m i : Nat) (q R : Int) (_hm : 0 < m) (hr : r = s.extract (pos s.size z m i) s.size) (hlt : pos s.size z m i < s.size) (hz : 1 ≤ z (i % m)) :
    flatF (frs s z m q R i) ++ [.bool ((i : Int) == 0), .bool (min (z (i % m)) (r.size : Int) == (r.size : Int)), .int .i64 ((q + (i : Int)) % R), .string (r.extract 0 (min (z (i % m)) (r.size : Int)).toNat)] = flatF (frs s z m q R (i + 1)) ∧
    r.extract (min (z (i % m)) (r.size : Int)).toNat r.size = s.extract (pos s.size z m (i + 1)) s.size := by
  have hsz : r.size = s.size - pos s.size z m i := by rw [hr, ByteArray.size_extract]; omega
  have hp := pos_succ s.size z m i
  have hn : (min (z (i % m)) (r.size : Int)).toNat = pos s.size z m (i + 1) - pos s.size z m i := by rw [hp, hsz]; omega
  constructor
  · rw [frs_succ, flatF_snoc]
    congr 1
    unfold frCells fr
    simp only
    have e1 : ((i : Int) == 0) = (i == 0) := by
      rw [Bool.eq_iff_iff]; simp
    have e2 : (min (z (i % m)) (r.size : Int) == (r.size : Int)) = (pos s.size z m (i + 1) == s.size) := by
      rw [Bool.eq_iff_iff]; simp; rw [hp, hsz]; omega
    have e3 : r.extract 0 (min (z (i % m)) (r.size : Int)).toNat = s.extract (pos s.size z m i) (pos s.size z m (i + 1)) := by
      rw [hn, hr, extract_extract']
      have := pos_mono s.size z m i
      have := pos_le s.size z m (i + 1)
      congr 1; omega
    rw [e1, e2, e3]
  · rw [hn, hsz, hr, extract_extract']
    have := pos_mono s.size z m i
    have := pos_le s.size z m (i + 1)
    congr 1 <;> omega

set_option maxRecDepth 100000 in
set_option maxHeartbeats 4000000 in
theorem cut_loops (s : ByteArray) (a : Option Addr) (m cap : Nat) (z : Nat → Int) (q : Int) (short : Bool) (w : World) (hz : Arr w a m z)
    (h1 : 1 ≤ s.size) (h2 : s.size ≤ 1500) (h3 : 1 ≤ m) (h4 : m ≤ 64) (h5 : 0 ≤ q) (h6 : q < ring short) :
    Calls Try.prog 21 #[.string s, .slice a m cap, .int .i64 q, .bool short] w (CutPost s z m q short w) := by
  have hmay : mayB (s.size : Int) = true := by simp [mayB]; omega
  have hR := ring_pos short
  obtain ⟨i32, hi32, hz32, hsz32, hby32⟩ := info_parts info32
  obtain ⟨hR1, hR2⟩ := hR
  have d1 : decide ((m : Int) < 1) = false := by simp; omega
  have d2 : decide ((64 : Int) < (m : Int)) = false := by simp; omega
  have d3 : decide (q < 0) = false := by simp; omega
  have d4 : decide (ring short ≤ q) = false := by simp; omega
  go_enter Try.func21, Try.ntmps21
  go_wp2_with (first | (go_at_call 22; refine (ring22 _ _).mono ?_; rintro e w' ⟨rfl, rfl⟩) | (go_at_call 24; refine (may_any _ _).mono ?_; rintro e w' ⟨rfl, rfl⟩))
  clear d1 d2 d3 d4 hmay
  go_loop [43] (fun i => ∃ k : Nat, k ≤ m ∧ i = .int .i64 k ∧ ∀ j, j < k → 1 ≤ z j ∧ z j ≤ 1500) (fun i => m - (intOf i).toNat)
  case atStart => exact ⟨0, Nat.zero_le _, rfl, fun j hj => by omega⟩
  case round =>
    obtain ⟨k, hk, rfl, hall⟩ := hrel
    have HA : Hid (∀ j, j < k → 1 ≤ z j ∧ z j ≤ 1500) := hall
    clear hall
    by_cases hlt : k < m
    · obtain ⟨b, off, rfl, hb, hc, hl, hu⟩ := hz.2 k hlt
      have HZ : Hid (Arr w (some ⟨b, off, none⟩) m z) := hz
      clear hz
      have kd : decide ((k : Int) < (m : Int)) = true := by simp; omega
      by_cases hgood : 1 ≤ z k ∧ z k ≤ 1500
      · have hm : mayB (z k) = true := by simp [mayB]; omega
        go_wp2_with (go_at_call 24; refine (may_any _ _).mono ?_; rintro e w' ⟨rfl, rfl⟩)
        go_round
        case rel =>
          refine ⟨k + 1, by omega, by go_num, fun j hj => ?_⟩
          by_cases e : j = k
          · subst e; exact hgood
          · exact HA.out j (by omega)
        case measure => simp [intOf]; omega
      · have hm : mayB (z k) = false := by simp [mayB]; omega
        have hB : Bad s.size z m q short := by unfold Bad; right; right; right; right; right; right; left; exact ⟨k, hlt, by omega⟩
        have HP : Hid (CutPost s z m q short w (.returned (.tuple #[.slice none 0 0, .int .i64 1800])) w) := CutPost.bad hB (Only.refl _ _)
        clear hB hgood
        go_wp2_with (go_at_call 24; refine (may_any _ _).mono ?_; rintro e w' ⟨rfl, rfl⟩)
        go_ret2
        exact HP.out
    · have hkm : k = m := by omega
      subst hkm
      have kd : decide ((k : Int) < (k : Int)) = false := by simp
      go_wp2_with fail
      have HA' : ∀ j, j < k → 1 ≤ z j ∧ z j ≤ 1500 := HA.out
      clear HA kd hlt
      have HA : Hid (∀ j, j < k → 1 ≤ z j ∧ z j ≤ 1500) := HA'
      clear HA'
      go_loopw [0, 13, 14] (fun t v c wr => ∃ (i : Nat) (ao : Option Addr) (ca : Nat) (r : ByteArray), i ≤ 64 ∧ t = .string r ∧ v = .slice ao i ca ∧ c = .int .i64 i ∧ r = s.extract (pos s.size z k i) s.size ∧ Sl wr 32 4 ao i ca (flatF (frs s z k q (ring short) i)) ∧ (∀ j, j < i → pos s.size z k j < s.size) ∧ (∀ x, blk ao = some x → w.heap.size ≤ x) ∧ Only [] w wr) (fun _ _ c _ => 65 - (intOf c).toNat)
      case atStart =>
        refine ⟨0, none, 0, s, by omega, rfl, rfl, rfl, ?_, Sl.nil _ _ _, fun j hj => by omega, by simp [blk], Only.refl _ _⟩
        show s = s.extract 0 s.size
        simp
      case round =>
        obtain ⟨i, ao, ca, r, hi, rfl, rfl, rfl, hr, hsl, hlts, hblk, ho⟩ := hrel
        have HR : Hid (r = s.extract (pos s.size z k i) s.size) := hr
        have HL : Hid (∀ j, j < i → pos s.size z k j < s.size) := hlts
        have HBK : Hid (∀ x, blk ao = some x → w.heap.size ≤ x) := hblk
        have hsz : r.size = s.size - pos s.size z k i := by rw [hr, ByteArray.size_extract]; omega
        have HSZ : Hid (r.size = s.size - pos s.size z k i) := hsz
        have hrl : r.size ≤ 1500 := by omega
        clear hr hlts hblk hsz
        by_cases hne : r.size = 0
        · have hemp : r.toList.isEmpty = true := by
            rw [ByteArray.toList_eq, List.isEmpty_iff]
            exact List.eq_nil_of_length_eq_zero (by rw [Array.length_toList]; exact hne)
          have hC : Cuts s.size z k i := ⟨by have := HSZ.out; have := pos_le s.size z k i; omega, HL.out⟩
          have hnB : ¬ Bad s.size z k q short := by
            unfold Bad
            rintro (h | h | h | h | h | h | ⟨j, hj, h⟩ | h)
            · omega
            · omega
            · omega
            · omega
            · omega
            · omega
            · have := HA.out j hj; omega
            · have := pos_top s.size z k i 64 hi hC.top; omega
          have HP : Hid (CutPost s z k q short w (.returned (.tuple #[.slice ao i ca, .int .i64 0])) wr) := ⟨ho, .inr ⟨hnB, i, ao, ca, hi, hC, rfl, hsl, HBK.out⟩⟩
          clear hC hnB hsl ho hne
          go_wp2
          go_ret2
          exact HP.out
        · have hemp : r.toList.isEmpty = false := by
            cases hh : r.toList.isEmpty with
            | false => rfl
            | true =>
              exfalso
              apply hne
              rw [ByteArray.toList_eq, List.isEmpty_iff] at hh
              show r.data.size = 0
              rw [← Array.length_toList, hh]
              rfl
          have hplt : pos s.size z k i < s.size := by have := HSZ.out; omega
          by_cases h64 : i = 64
          · have hB : Bad s.size z k q short := by unfold Bad; subst h64; right; right; right; right; right; right; right; exact hplt
            have HP : Hid (CutPost s z k q short w (.returned (.tuple #[.slice none 0 0, .int .i64 1800])) wr) := CutPost.bad hB ho
            have hi64 : ((i : Int) == 64) = true := by simp; omega
            clear hB hsl ho hne h64
            go_wp2
            go_ret2
            exact HP.out
          · have hi64 : ((i : Int) == 64) = false := by simp; omega
            have hmod := Nat.mod_lt i (show 0 < k by omega)
            obtain ⟨b, off, rfl, hb, hc, hl, hu⟩ := hz.2 (i % k) hmod
            have HZ : Hid (Arr w (some ⟨b, off, none⟩) k z) := hz
            have hcr : wr.cell? ⟨b, off + i % k, none⟩ = some (.int .i64 (z (i % k))) := (World.cell?_of_block (ho.block b hb (by simp))).trans hc
            obtain ⟨hz1, hz2⟩ := HA.out (i % k) hmod
            clear hz hc
            have STEP := cut_step s r z k i q (ring short) (by omega) HR.out hplt hz1
            have ST : Hid (flatF (frs s z k q (ring short) i) ++ _ = flatF (frs s z k q (ring short) (i + 1)) ∧ _) := STEP
            clear STEP
            generalize z (i % k) = y at *
            go_upto_region 17 with ((with_reducible apply wpList_min); (focus rfl); (focus rfl))
            have hy0 : 0 ≤ min y (r.size : Int) := by omega
            have hy1 : min y (r.size : Int) ≤ (r.size : Int) := by omega
            generalize min y (r.size : Int) = t at *
            clear hcr
            refine wp_region_free 16 [0] [16, 17, 18] mixed (by kernel_rfl) (fun d v c a w h => by cases d <;> exact h) ?_
            simp only [Region.heads, List.range, List.range.loop, List.filter_cons, List.filter_nil, List.contains_cons, List.contains_nil, Nat.reduceBEq, Bool.or_false, Bool.not_true, Bool.not_false, Bool.false_eq_true, if_false, if_true, List.cons_append, List.nil_append, List.filterMap_cons, List.filterMap_nil, List.getElem?_cons_succ, List.getElem?_cons_zero, BEq.rfl]
            repeat (refine wpStill_op rfl rfl (fun K hK => ?_); go_step; refine hK _ ?_; clear hK K)
            refine wpStill_nil ?_
            have hsl2 : Sl wr.drew 32 4 ao i ca (flatF (frs s z k q (ring short) i)) := hsl.only (Only.drew (Only.refl [] _)) (by simp)
            have ho2 := ho.drew
            have hdl : wr.drew.heap.size = wr.heap.size := rfl
            have HDL : Hid (wr.drew.heap.size = wr.heap.size) := hdl
            clear hsl ho hdl
            generalize wr.drew = w1 at *
            have hml : i + 1 ≤ maxLen := by unfold maxLen; omega
            refine wpList_plain rfl (fun K hK => ?_)
            go_step
            refine hK _ _ ?_
            clear hK K
            refine wpList_append_sl _ rfl (.tmp 67) (.tmp 83) 58 rfl 32 i32 _ 4 32 Try.underlying58 hi32 hz32 hsz32 hby32 rfl ao i ca _ rfl (hsl2.only (Only.alloc (Only.refl [] _) _) (by simp)) ⟨_, 0, none⟩ 1 1 [.bool ((i : Int) == 0), .bool (t == (r.size : Int)), .int .i64 ((q + (i : Int)) % ring short), .string (r.extract 0 t.toNat)] rfl rfl (cells_new _ _ _) (four_cells _ _ _ _) hml (by omega) ?_
            intro ao' ca' w2 hsl' hgr hbl'
            rw [ST.out.1] at hsl'
            have ho3 : Only [] w w2 := (ho2.alloc _).trans' (S := []) (T := (blk ao).toList) (Only.of_grown hgr (fun x hx => by simp [hx])) (fun x hx => by right; exact HBK.out x (by simpa using hx))
            have hb3 : Hid (∀ x, blk ao' = some x → w.heap.size ≤ x) := fun x hx => by
              rcases hbl' with h | h
              · exact HBK.out x (h.symm.trans hx)
              · rw [h] at hx; simp at hx; have := ho2.size; omega
            clear hsl2 ho2 hgr hbl' hml
            go_wp2
            go_roundw
            case rel => exact ⟨i + 1, ao', ca', _, by omega, rfl, rfl, by go_num, ST.out.2, hsl', fun j hj => by
              by_cases e : j = i
              · subst e; exact hplt
              · exact HL.out j (by omega), hb3.out, ho3⟩
            case measure => simp [intOf]; omega

/-- Cut, whatever it is handed. -/
theorem cut_any (s : ByteArray) (a : Option Addr) (m cap : Nat) (z : Nat → Int) (q : Int) (short : Bool) (w : World) (hs : s.size ≤ 9223372036854775807) (hz : Arr w a m z) :
    Calls Try.prog 21 #[.string s, .slice a m cap, .int .i64 q, .bool short] w (CutPost s z m q short w) := by
  by_cases h : s.size < 1 ∨ 1500 < s.size ∨ m < 1 ∨ 64 < m ∨ q < 0 ∨ ring short ≤ q
  · exact cut_head s a m cap z q short w hs hz h
  · exact cut_loops s a m cap z q short w hz (by omega) (by omega) (by omega) (by omega) (by omega) (by omega)

end Go.Proofs.Ytjcndeanojeffaa

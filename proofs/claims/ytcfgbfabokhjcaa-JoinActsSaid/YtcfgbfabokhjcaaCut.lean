/- The contract of withyref17.Cut (as chapter 18 has it). -/
import Derived.Test.YtcfgbfabokhjcaaCutPlain
import Derived.Test.YtcfgbfabokhjcaaOrder
namespace Go.Proofs.Ytcfgbfabokhjcaa.Cutp
open Go.RowKit
open Plain (Fr ring)

theorem info39 : (Try.prog.info? 33).map (fun i => (i.zero, i.size, i.bytes)) = some (some (.agg #[.bool false, .bool false, .int .i64 0, .string ⟨#[]⟩]), 4, 32) := by kernel_rfl
theorem ring16 (b : Bool) (w : World) : Calls Try.prog 37 #[.bool b] w fun e w' => e = .returned (.int .i64 (ring b)) ∧ w = w' := by
  cases b
  · go_enter Try.func37, Try.ntmps37
    go_wp2
    go_ret
    exact ⟨rfl, rfl⟩
  · go_enter Try.func37, Try.ntmps37
    go_wp2
    go_ret
    exact ⟨rfl, rfl⟩
/-- a row of ints that may be read. -/
def Arr (w : World) (a : Option Addr) (m : Nat) (z : Nat → Int) : Prop :=
  m ≤ 9223372036854775807 ∧ ∀ i, i < m → ∃ b off, a = some ⟨b, off, none⟩ ∧ b < w.heap.size ∧ w.cell? ⟨b, off + i, none⟩ = some (.int .i64 (z i)) ∧ -9223372036854775808 ≤ z i ∧ z i ≤ 9223372036854775807

theorem Arr.only {w w' : World} {a : Option Addr} {m : Nat} {z : Nat → Int} (h : Arr w a m z) (ho : Only [] w w') : Arr w' a m z := by
  refine ⟨h.1, fun i hi => ?_⟩
  obtain ⟨b, off, h1, h2, h3, h4⟩ := h.2 i hi
  exact ⟨b, off, h1, Nat.lt_of_lt_of_le h2 ho.size, (World.cell?_of_block (ho.block b h2 (by simp))).trans h3, h4⟩

/-- what Cut gives. -/
def CutPost (s : ByteArray) (z : Nat → Int) (m : Nat) (q : Int) (short : Bool) (w : World) (e : Ending) (w' : World) : Prop :=
  Only [] w w' ∧ ((Bad s.size z m q short ∧ e = .returned (.tuple #[.slice none 0 0, .int .i64 1800])) ∨
    (¬ Bad s.size z m q short ∧ ∃ n ao cap, n ≤ 64 ∧ Cuts s.size z m n ∧ e = .returned (.tuple #[.slice ao n cap, .int .i64 0]) ∧ Sl w' 33 4 ao n cap (flatF (frs s z m q (ring short) n)) ∧ ∀ k, blk ao = some k → w.heap.size ≤ k))

theorem CutPost.bad {s : ByteArray} {z : Nat → Int} {m : Nat} {q : Int} {short : Bool} {w w' : World} (h : Bad s.size z m q short) (ho : Only [] w w') : CutPost s z m q short w (.returned (.tuple #[.slice none 0 0, .int .i64 1800])) w' := ⟨ho, .inl ⟨h, rfl⟩⟩

theorem ring_pos (b : Bool) : 0 < ring b ∧ ring b ≤ 16777216 := by cases b <;> simp [ring]

theorem four_cells (a b : Bool) (c : Int) (d : ByteArray) : ∀ u ∈ [Value.bool a, Value.bool b, Value.int .i64 c, Value.string d], u.oneCell' = true := by
  intro u hu
  simp at hu
  rcases hu with rfl | rfl | rfl | rfl <;> rfl

theorem ring_still (b : Bool) (w : World) : Calls Try.prog 37 #[.bool b] w fun e w' => e = .returned (.int .i64 (ring b)) ∧ w' = w := (ring16 b w).mono fun _ _ ⟨h1, h2⟩ => ⟨h1, h2.symm⟩

set_option maxRecDepth 100000 in
set_option maxHeartbeats 2000000 in
theorem rcut_head (s : ByteArray) (a : Option Addr) (m cap : Nat) (z : Nat → Int) (q : Int) (short : Bool) (w : World) (hs : s.size ≤ 9223372036854775807) (hz : Arr w a m z)
    (h : s.size < 1 ∨ 1500 < s.size ∨ m < 1 ∨ 64 < m ∨ q < 0 ∨ ring short ≤ q) :
    Calls Try.prog 29 #[.string s, .slice a m cap, .int .i64 q, .bool short] w (CutPost s z m q short w) := by
  have hB : Bad s.size z m q short := by unfold Bad; omega
  have HP : Hid (CutPost s z m q short w (.returned (.tuple #[.slice none 0 0, .int .i64 1800])) w) := CutPost.bad hB (Only.refl _ _)
  clear hB
  have hm := hz.1
  clear hz
  by_cases h0 : s.size < 1
  · clear h
    go_enter Try.func29, Try.ntmps29
    go_wp2_with fail
    go_ret2
    exact HP.out
  by_cases h1 : 1500 < s.size
  · clear h
    go_enter Try.func29, Try.ntmps29
    go_wp2_with fail
    go_ret2
    exact HP.out
  by_cases h2 : m < 1
  · clear h
    go_enter Try.func29, Try.ntmps29
    go_wp2_with fail
    go_ret2
    exact HP.out
  by_cases h3 : 64 < m
  · clear h
    go_enter Try.func29, Try.ntmps29
    go_wp2_with fail
    go_ret2
    exact HP.out
  by_cases h4 : q < 0
  · clear h
    go_enter Try.func29, Try.ntmps29
    go_wp2_with fail
    go_ret2
    exact HP.out
  have h5 : ring short ≤ q := by omega
  clear h
  go_enter Try.func29, Try.ntmps29
  go_wp2_with (go_at_call 37; refine (ring16 _ _).mono ?_; rintro e w' ⟨rfl, rfl⟩)
  go_ret2
  exact HP.out

/-- one fragment more. -/
theorem rcut_step (s : ByteArray) (z : Nat → Int) (m i : Nat) (q R : Int) (hm : 0 < m) (hz : ∀ j, j < m → 1 ≤ z j) (hlt : ∀ j, j ≤ i → pos s.size z m j < s.size) :
    flatF (frs s z m q R i) ++ [.bool ((pos s.size z m i : Int) == 0), .bool (min (s.size : Int) ((pos s.size z m i : Int) + z (i % m)) == (s.size : Int)), .int .i64 ((q + (i : Int)) % R), .string (s.extract (pos s.size z m i) (min (s.size : Int) ((pos s.size z m i : Int) + z (i % m))).toNat)] = flatF (frs s z m q R (i + 1)) ∧
    min (s.size : Int) ((pos s.size z m i : Int) + z (i % m)) = (pos s.size z m (i + 1) : Int) := by
  have hzi := hz (i % m) (Nat.mod_lt _ hm)
  have hp := pos_succ s.size z m i
  have hn : min (s.size : Int) ((pos s.size z m i : Int) + z (i % m)) = (pos s.size z m (i + 1) : Int) := by rw [hp]; omega
  refine ⟨?_, hn⟩
  rw [hn, frs_succ, flatF_snoc]
  congr 1
  unfold frCells fr
  simp only [Int.toNat_natCast]
  have e1 : ((pos s.size z m i : Int) == 0) = (i == 0) := by
    rw [Bool.eq_iff_iff]
    simp
    have := pos_ge s.size z m hz hm i (fun j hj => hlt j (by omega))
    constructor
    · intro h; omega
    · intro h; subst h; rfl
  have e2 : ((pos s.size z m (i + 1) : Int) == (s.size : Int)) = (pos s.size z m (i + 1) == s.size) := by
    rw [Bool.eq_iff_iff]; simp; constructor <;> intro h <;> omega
  rw [e1, e2]

set_option maxRecDepth 100000 in
set_option maxHeartbeats 4000000 in
theorem rcut_loops (s : ByteArray) (a : Option Addr) (m cap : Nat) (z : Nat → Int) (q : Int) (short : Bool) (w : World) (hz : Arr w a m z)
    (h1 : 1 ≤ s.size) (h2 : s.size ≤ 1500) (h3 : 1 ≤ m) (h4 : m ≤ 64) (h5 : 0 ≤ q) (h6 : q < ring short) :
    Calls Try.prog 29 #[.string s, .slice a m cap, .int .i64 q, .bool short] w (CutPost s z m q short w) := by
  have hR := ring_pos short
  obtain ⟨i39, hi39, hz39, hsz39, hby39⟩ := info_parts info39
  obtain ⟨hR1, hR2⟩ := hR
  have d0 : decide ((s.size : Int) < 1) = false := by simp; omega
  have d0' : decide ((1500 : Int) < (s.size : Int)) = false := by simp; omega
  have d1 : decide ((m : Int) < 1) = false := by simp; omega
  have d2 : decide ((64 : Int) < (m : Int)) = false := by simp; omega
  have d3 : decide (q < 0) = false := by simp; omega
  have d4 : decide (ring short ≤ q) = false := by simp; omega
  go_enter Try.func29, Try.ntmps29
  go_wp2_with (go_at_call 37; refine (ring16 _ _).mono ?_; rintro e w' ⟨rfl, rfl⟩)
  clear d0 d0' d1 d2 d3 d4
  go_loop [10] (fun i => ∃ k : Nat, k ≤ m ∧ i = .int .i64 k ∧ ∀ j, j < k → 1 ≤ z j ∧ z j ≤ 1500) (fun i => m - (intOf i).toNat)
  case atStart => exact ⟨0, Nat.zero_le _, rfl, fun j hj => by omega⟩
  case round =>
    obtain ⟨k, hk, rfl, hall⟩ := hrel
    have HA : Hid (∀ j, j < k → 1 ≤ z j ∧ z j ≤ 1500) := hall
    clear hall
    by_cases hlt : k < m
    · obtain ⟨b, off, rfl, hb, hc, hl, hu⟩ := hz.2 k hlt
      have HZ : Hid (Arr w (some ⟨b, off, none⟩) m z) := hz
      clear hz
      have kd : decide ((k : Int) < (m : Int)) = true := by simp; omega
      by_cases hgood : 1 ≤ z k ∧ z k ≤ 1500
      · have e1 : decide (z k < 1) = false := by simp; omega
        have e2 : decide (1500 < z k) = false := by simp; omega
        go_wp2
        go_round
        case rel =>
          refine ⟨k + 1, by omega, by go_num, fun j hj => ?_⟩
          by_cases e : j = k
          · subst e; exact hgood
          · exact HA.out j (by omega)
        case measure => simp [intOf]; omega
      · have hB : Bad s.size z m q short := by unfold Bad; right; right; right; right; right; right; left; exact ⟨k, hlt, by omega⟩
        have HP : Hid (CutPost s z m q short w (.returned (.tuple #[.slice none 0 0, .int .i64 1800])) w) := CutPost.bad hB (Only.refl _ _)
        by_cases hg1 : z k < 1
        · clear hB hgood
          go_wp2
          go_ret2
          exact HP.out
        · have hg2 : 1500 < z k := by omega
          clear hB hgood
          go_wp2
          go_ret2
          exact HP.out
    · have hkm : k = m := by omega
      subst hkm
      have kd : decide ((k : Int) < (k : Int)) = false := by simp
      go_wp2_with fail
      have HA' : ∀ j, j < k → 1 ≤ z j ∧ z j ≤ 1500 := HA.out
      clear HA kd hlt
      have HA : Hid (∀ j, j < k → 1 ≤ z j ∧ z j ≤ 1500) := HA'
      clear HA'
      go_loopw [11, 12, 13] (fun v t c wr => ∃ (i p : Nat) (ao : Option Addr) (ca : Nat), t = .int .i64 p ∧ v = .slice ao i ca ∧ c = .int .i64 i ∧ p = pos s.size z k i ∧ Sl wr 33 4 ao i ca (flatF (frs s z k q (ring short) i)) ∧ (∀ j, j < i → pos s.size z k j < s.size) ∧ (∀ x, blk ao = some x → w.heap.size ≤ x) ∧ Only [] w wr) (fun _ t _ _ => s.size - (intOf t).toNat)
      case atStart => exact ⟨0, 0, none, 0, rfl, rfl, rfl, rfl, Sl.nil _ _ _, fun j hj => by omega, by simp [blk], Only.refl _ _⟩
      case round =>
        obtain ⟨i, p, ao, ca, rfl, rfl, rfl, hp, hsl, hlts, hblk, ho⟩ := hrel
        have hil : i ≤ p := by rw [hp]; exact pos_ge s.size z k (fun j hj => (HA.out j hj).1) (by omega) i hlts
        have hpl : p ≤ s.size := by rw [hp]; exact pos_le _ _ _ _
        have HL : Hid (∀ j, j < i → pos s.size z k j < s.size) := hlts
        have HBK : Hid (∀ x, blk ao = some x → w.heap.size ≤ x) := hblk
        have HPP : Hid (p = pos s.size z k i) := hp
        clear hlts hblk hp
        by_cases hend : p = s.size
        · have hC : Cuts s.size z k i := ⟨by rw [← HPP.out]; exact hend, HL.out⟩
          have kd : decide (p < s.size) = false := by simp; omega
          by_cases h64 : 64 < i
          · have hB : Bad s.size z k q short := by unfold Bad; right; right; right; right; right; right; right; exact HL.out 64 h64
            have HP : Hid (CutPost s z k q short w (.returned (.tuple #[.slice none 0 0, .int .i64 1800])) wr) := CutPost.bad hB ho
            have kd2 : decide ((64 : Int) < (i : Int)) = true := by simp; omega
            clear hC hB hsl ho hend
            go_wp2
            go_ret2
            exact HP.out
          · have hnB : ¬ Bad s.size z k q short := by
              unfold Bad
              rintro (h | h | h | h | h | h | ⟨j, hj, h⟩ | h)
              · omega
              · omega
              · omega
              · omega
              · omega
              · omega
              · have := HA.out j hj; omega
              · have := pos_top s.size z k i 64 (by omega) hC.top; omega
            have HP : Hid (CutPost s z k q short w (.returned (.tuple #[.slice ao i ca, .int .i64 0])) wr) := ⟨ho, .inr ⟨hnB, i, ao, ca, by omega, hC, rfl, hsl, HBK.out⟩⟩
            have kd2 : decide ((64 : Int) < (i : Int)) = false := by simp; omega
            clear hC hnB hsl ho hend
            go_wp2
            go_ret2
            exact HP.out
        · have kd : decide (p < s.size) = true := by simp; omega
          have hmod := Nat.mod_lt i (show 0 < k by omega)
          obtain ⟨b, off, rfl, hb, hc, hl, hu⟩ := hz.2 (i % k) hmod
          have HZ : Hid (Arr w (some ⟨b, off, none⟩) k z) := hz
          have hcr : wr.cell? ⟨b, off + i % k, none⟩ = some (.int .i64 (z (i % k))) := (World.cell?_of_block (ho.block b hb (by simp))).trans hc
          obtain ⟨hz1, hz2⟩ := HA.out (i % k) hmod
          clear hz hc
          have HLi : Hid (∀ j, j ≤ i → pos s.size z k j < s.size) := fun j hj => by
            by_cases e : j = i
            · subst e; rw [← HPP.out]; omega
            · exact HL.out j (by omega)
          have STEP := rcut_step s z k i q (ring short) (by omega) (fun j hj => (HA.out j hj).1) HLi.out
          rw [← HPP.out] at STEP
          have ST : Hid (flatF (frs s z k q (ring short) i) ++ _ = flatF (frs s z k q (ring short) (i + 1)) ∧ _) := STEP
          have hnx : p < pos s.size z k (i + 1) := by rw [HPP.out]; exact pos_lt _ _ _ _ (HLi.out i (Nat.le_refl _)) hz1
          have hnx2 := pos_le s.size z k (i + 1)
          clear STEP
          generalize z (i % k) = y at *
          go_upto_region 14 with ((with_reducible apply wpList_min); (focus rfl); (focus rfl))
          have hy0 : (p : Int) ≤ min (s.size : Int) ((p : Int) + y) := by omega
          have hy1 : min (s.size : Int) ((p : Int) + y) ≤ (s.size : Int) := by omega
          generalize min (s.size : Int) ((p : Int) + y) = t at *
          clear hcr kd
          refine wp_region_free 18 [0] [18, 19, 20] mixed (by kernel_rfl) (fun d v c a w h => by cases d <;> exact h) ?_
          simp only [Region.heads, List.range, List.range.loop, List.filter_cons, List.filter_nil, List.contains_cons, List.contains_nil, Nat.reduceBEq, Bool.or_false, Bool.not_true, Bool.not_false, Bool.false_eq_true, if_false, if_true, List.cons_append, List.nil_append, List.filterMap_cons, List.filterMap_nil, List.getElem?_cons_succ, List.getElem?_cons_zero, BEq.rfl]
          repeat (refine wpStill_op rfl rfl (fun K hK => ?_); go_step; refine hK _ ?_; clear hK K)
          still_call (ring_still _ _)
          repeat (refine wpStill_op rfl rfl (fun K hK => ?_); go_step; refine hK _ ?_; clear hK K)
          refine wpStill_nil ?_
          have hsl2 : Sl wr.drew 33 4 ao i ca (flatF (frs s z k q (ring short) i)) := hsl.only (Only.drew (Only.refl [] _)) (by simp)
          have ho2 := ho.drew
          clear hsl ho
          generalize wr.drew = w1 at *
          have hml : i + 1 ≤ maxLen := by unfold maxLen; omega
          refine wpList_plain rfl (fun K hK => ?_)
          go_step
          refine hK _ _ ?_
          clear hK K
          refine wpList_append_sl _ rfl (.tmp 79) (.tmp 97) 46 rfl 33 i39 _ 4 32 Try.underlying46 hi39 hz39 hsz39 hby39 rfl ao i ca _ rfl (hsl2.only (Only.alloc (Only.refl [] _) _) (by simp)) ⟨_, 0, none⟩ 1 1 [.bool ((p : Int) == 0), .bool (t == (s.size : Int)), .int .i64 ((q + (i : Int)) % ring short), .string (s.extract p t.toNat)] rfl rfl (cells_new _ _ _) (four_cells _ _ _ _) hml (by omega) ?_
          intro ao' ca' w2 hsl' hgr hbl'
          rw [ST.out.1] at hsl'
          have ho3 : Only [] w w2 := (ho2.alloc _).trans' (S := []) (T := (blk ao).toList) (Only.of_grown hgr (fun x hx => by simp [hx])) (fun x hx => by right; exact HBK.out x (by simpa using hx))
          have hb3 : Hid (∀ x, blk ao' = some x → w.heap.size ≤ x) := fun x hx => by
            rcases hbl' with h | h
            · exact HBK.out x (h.symm.trans hx)
            · rw [h] at hx; simp at hx; have := ho2.size; omega
          clear hsl2 ho2 hgr hbl' hml
          go_wp2
          go_roundw
          case rel => exact ⟨i + 1, pos s.size z k (i + 1), ao', ca', by rw [ST.out.2], rfl, by go_num, rfl, hsl', fun j hj => HLi.out j (by omega), hb3.out, ho3⟩
          case measure => rw [ST.out.2]; simp [intOf]; omega

/-- the reference's Cut, whatever it is handed. -/
theorem rcut_any (s : ByteArray) (a : Option Addr) (m cap : Nat) (z : Nat → Int) (q : Int) (short : Bool) (w : World) (hs : s.size ≤ 9223372036854775807) (hz : Arr w a m z) :
    Calls Try.prog 29 #[.string s, .slice a m cap, .int .i64 q, .bool short] w (CutPost s z m q short w) := by
  by_cases h : s.size < 1 ∨ 1500 < s.size ∨ m < 1 ∨ 64 < m ∨ q < 0 ∨ ring short ≤ q
  · exact rcut_head s a m cap z q short w hs hz h
  · exact rcut_loops s a m cap z q short w hz (by omega) (by omega) (by omega) (by omega) (by omega) (by omega)

end Go.Proofs.Ytcfgbfabokhjcaa.Cutp

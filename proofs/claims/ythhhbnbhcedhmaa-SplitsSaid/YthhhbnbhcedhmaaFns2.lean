/- Contracts of the helpers LendInts, KeptInts, SameInts, SpoilFrags. -/
import Derived.Test.YthhhbnbhcedhmaaAwake
import Derived.Test.YthhhbnbhcedhmaaBase3
import Derived.Lib.Hide
namespace Go.Proofs.Ythhhbnbhcedhmaa
open Go.RowKit
open Plain

theorem info3 : (Try.prog.info? 3).map (fun i => (i.zero, i.size, i.bytes)) = some (some (.int .i64 0), 1, 8) := by kernel_rfl

/-- so many ints as cells. -/
def intsOf (z : Nat → Int) (m : Nat) : List Value := (List.range m).map fun i => .int .i64 (z i)
theorem intsOf_length (z : Nat → Int) (m : Nat) : (intsOf z m).length = m := by simp [intsOf]
theorem intsOf_get (z : Nat → Int) (m i : Nat) (h : i < m) : (intsOf z m)[i]? = some (.int .i64 (z i)) := by simp [intsOf, h]
theorem intsOf_one (z : Nat → Int) (m : Nat) : ∀ u ∈ intsOf z m, u.oneCell' = true := by
  intro u hu
  simp only [intsOf, List.mem_map] at hu
  obtain ⟨i, _, rfl⟩ := hu
  rfl

theorem Arr.src {w : World} {a : Option Addr} {m : Nat} {z : Nat → Int} (h : Arr w a m z) : Src w 1 a m (intsOf z m) := by
  refine ⟨by rw [intsOf_length]; omega, intsOf_one z m, ?_⟩
  cases a with
  | none =>
    left
    refine ⟨rfl, ?_⟩
    rcases Nat.eq_zero_or_pos m with h0 | h0
    · exact h0
    · obtain ⟨b, off, h1, _⟩ := h.2 0 h0
      cases h1
  | some x =>
    right
    refine ⟨x, rfl, fun j u hu => ?_⟩
    have hj : j < m := by
      rcases Nat.lt_or_ge j m with h0 | h0
      · exact h0
      · rw [List.getElem?_eq_none (by rw [intsOf_length]; exact h0)] at hu; cases hu
    obtain ⟨b, off, h1, _, h2, _⟩ := h.2 j hj
    cases h1
    rw [intsOf_get z m j hj] at hu
    cases hu
    rw [Addr.add_lit]
    exact h2

theorem copy_ints (a : Option Addr) (m cap : Nat) (z : Nat → Int) (w : World) (hA : Arr w a m z) (hm : m * 8 ≤ 140737488351232) :
    Calls Try.prog 17 #[.slice a m cap] w fun e w' => ∃ ao ca, e = .returned (.slice ao m ca) ∧ Sl w' 3 1 ao m ca (intsOf z m) ∧ Only [] w w' ∧ ∀ k, blk ao = some k → w.heap.size ≤ k := by
  obtain ⟨i3, hi3, hz3, hsz3, hby3⟩ := info_parts info3
  have hml : 0 + m ≤ maxLen := by unfold maxLen; omega
  have h0 := sl_laid w #[] 3 1 0 rfl (by unfold maxLen; omega)
  have hS := (hA.only ((Only.refl [] w).alloc (.cells #[] 3))).src
  clear hA
  go_enter Try.func17, Try.ntmps17
  go_wp2_with (at_builtin; refine wpList_append_src _ rfl (.tmp 3) (.tmp 4) 22 rfl 3 i3 _ 1 8 Try.underlying22 hi3 hz3 hsz3 hby3 rfl (some ⟨w.heap.size, 0, none⟩) 0 0 [] rfl h0 a m cap (intsOf z m) rfl hS hml (by omega) ?_; intro ao ca w2 hsl hgr hbl)
  have ho : Only [] w w2 := ((Only.refl [] w).alloc _).trans' (S := []) (T := [w.heap.size]) (Only.of_grown hgr (fun x hx => by simp [blk] at hx; simp [hx])) (fun x hx => by right; simp at hx; omega)
  have hb : ∀ k, blk ao = some k → w.heap.size ≤ k := fun k hk => by
    rcases hbl with h | h
    · rw [h] at hk; simp [blk] at hk; omega
    · rw [h] at hk; simp at hk; omega
  rw [List.nil_append, Nat.zero_add] at hsl
  clear hgr hbl
  go_wp2
  go_ret
  exact ⟨ao, ca, rfl, hsl, ho, hb⟩

theorem two_le {w : World} {e size : Nat} {ao : Option Addr} {m cap : Nat} {xs : List Value} (h : Sl w e size ao (m + 2) cap xs) : (m : Int) ≤ (cap : Int) := by have := h.2.1; omega
theorem lend_ints (a : Option Addr) (m cap : Nat) (z : Nat → Int) (w : World) (hA : Arr w a m z) (hm : m * 8 ≤ 140737488351232) :
    Calls Try.prog 8 #[.slice a m cap] w fun e w' => ∃ g off ca, e = .returned (.slice (some ⟨g, off, none⟩) m ca) ∧ Sl w' 3 1 (some ⟨g, off, none⟩) (m + 2) ca (intsOf z m ++ [.int .i64 (-7777), .int .i64 (-8888)]) ∧ Only [] w w' := by
  obtain ⟨i3, hi3, hz3, hsz3, hby3⟩ := info_parts info3
  have hml : m + 2 ≤ maxLen := by unfold maxLen; omega
  go_enter Try.func8, Try.ntmps8
  go_wp2_with fail
  refine (copy_ints a m cap z w hA hm).mono ?_
  rintro e w1 ⟨ao, ca, rfl, hsl, ho, hb⟩
  have hsl1 := hsl.only ((Only.refl [] w1).alloc (.cells #[.int .i64 (-7777), .int .i64 (-8888)] 3)) (by simp)
  have hsz := ho.size
  clear hsl hA
  have b1 : (0 : Int) ≤ (m : Int) := by omega
  go_wp2_with (at_builtin; refine wpList_append_sl _ rfl (.tmp 5) (.tmp 6) 22 rfl 3 i3 _ 1 8 Try.underlying22 hi3 hz3 hsz3 hby3 rfl ao m ca _ rfl hsl1 ⟨w1.heap.size, 0, none⟩ 2 2 [.int .i64 (-7777), .int .i64 (-8888)] rfl rfl (cells_new _ _ _) (by simp; exact ⟨rfl, rfl⟩) hml (by omega) ?_; intro ao2 ca2 w2 hsl2 hgr hbl; obtain ⟨g, off, rfl⟩ := hsl2.some (by omega); have b2 := two_le hsl2)
  have ho2 : Only [] w w2 := (ho.alloc _).trans' (S := []) (T := (blk ao).toList) (Only.of_grown hgr (fun x hx => by simp [hx])) (fun x hx => by right; exact hb x (by simpa using hx))
  clear hgr hbl hb ho hsl1
  go_ret
  exact ⟨g, off, ca2, rfl, hsl2, ho2⟩

set_option maxRecDepth 100000 in
set_option maxHeartbeats 2000000 in
theorem same_ints (a b : Option Addr) (m ca cb : Nat) (z : Nat → Int) (w : World) (ha : Arr w a m z) (hb : Arr w b m z) :
    Calls Try.prog 20 #[.slice a m ca, .slice b m cb] w fun e w' => e = .returned (.bool true) ∧ Only [] w w' := by
  have hne : ((m : Int) != (m : Int)) = false := by simp
  have hm9 := ha.1
  go_enter Try.func20, Try.ntmps20
  go_wp2
  go_loopw [5] (fun i wr => ∃ k : Nat, k ≤ m ∧ i = .int .i64 k ∧ Only [] w wr) (fun i _ => m - (intOf i).toNat)
  case atStart => exact ⟨0, Nat.zero_le _, rfl, Only.refl _ _⟩
  case round =>
    obtain ⟨k, hk, rfl, ho⟩ := hrel
    by_cases hlt : k < m
    · obtain ⟨ga, oa, rfl, _, ca0, _⟩ := (ha.only ho).2 k hlt
      obtain ⟨gb, ob, rfl, _, cb0, _⟩ := (hb.only ho).2 k hlt
      clear ha hb
      generalize z k = x at *
      have kl : (k : Int) < (m : Int) := by omega
      have kd : decide (k < m) = true := by simp; omega
      go_wp2_with fail
      refine wp_region_reads mixed (by kernel_rfl) ?_
      repeat (refine wpStill_op rfl rfl (fun K hK => ?_); go_step; refine hK _ ?_; clear hK K)
      refine wpStill_nil ?_
      go_wp2
      go_roundw
      case rel => exact ⟨k+1, by omega, by go_num, ho.drew⟩
      case measure => simp [intOf]; omega
    · have kd : decide (k < m) = false := by simp; omega
      go_wp2
      go_ret
      exact ⟨rfl, ho⟩

set_option maxRecDepth 100000 in
theorem kept_ints (g off : Nat) (b : Option Addr) (m ca cb : Nat) (z : Nat → Int) (w : World) (ha : Sl w 3 1 (some ⟨g, off, none⟩) (m + 2) ca (intsOf z m ++ [.int .i64 (-7777), .int .i64 (-8888)])) (hb : Arr w b m z) (hm : m * 8 ≤ 140737488351232) :
    Calls Try.prog 13 #[.slice (some ⟨g, off, none⟩) m ca, .slice b m cb] w fun e w' => e = .returned (.bool true) ∧ Only [] w w' := by
  have hA : Arr w (some ⟨g, off, none⟩) m z := by
    refine ⟨hb.1, fun i hi => ⟨g, off, rfl, ha.lt rfl, ?_, ?_⟩⟩
    · exact ha.cells i _ (by rw [List.getElem?_append_left (by rw [intsOf_length]; exact hi)]; exact intsOf_get z m i hi)
    · obtain ⟨_, _, _, _, _, h⟩ := hb.2 i hi; exact h
  have hle := ha.2.1
  have hc9 := ha.2.2.1
  unfold maxLen at hc9
  have b1 : (0 : Int) ≤ (m : Int) + 2 := by omega
  have b2 : (m : Int) + 2 ≤ (ca : Int) := by omega
  go_enter Try.func13, Try.ntmps13
  go_wp2_with fail
  refine (same_ints _ b m ca cb z w hA hb).mono ?_
  rintro e w1 ⟨rfl, ho⟩
  have h2 := ha.only ho (by simp)
  have c0 := h2.cells m _ (by rw [List.getElem?_append_right (by rw [intsOf_length]; omega), intsOf_length, Nat.sub_self]; rfl)
  have c1 := h2.cells (m + 1) _ (by rw [List.getElem?_append_right (by rw [intsOf_length]; omega), intsOf_length, Nat.add_sub_cancel_left]; rfl)
  clear ha hb hA h2
  have b3 : (m : Int) < (m : Int) + 2 := by omega
  have b4 : (m : Int) + 1 < (m : Int) + 2 := by omega
  go_wp2
  go_ret
  exact ⟨rfl, ho⟩

set_option maxRecDepth 100000 in
set_option maxHeartbeats 2000000 in
theorem spoil_frags (a : Option Addr) (n ca : Nat) (fs : List Fr) (w : World) (hn : fs.length = n) (hl : n ≤ 64) (ha : Sl w 39 4 a n ca (flatF fs)) :
    Calls Try.prog 14 #[.slice a n ca] w fun e w' => e = .returned (.tuple #[]) ∧ Only (blk a).toList w w' := by
  go_enter Try.func14, Try.ntmps14
  go_wp2
  go_loopw [2] (fun i wr => ∃ k : Nat, k ≤ n ∧ i = .int .i64 k ∧ Only (blk a).toList w wr ∧ ∀ j, j < n → ∃ g off q, a = some ⟨g, off, none⟩ ∧ wr.cell? ⟨g, off + j * 4 + 2, none⟩ = some (.int .i64 q) ∧ wr.frozen? ⟨g, off + j * 4 + 2, none⟩ = false) (fun i _ => n - (intOf i).toNat)
  case atStart =>
    refine ⟨0, Nat.zero_le _, rfl, Only.refl _ _, fun j hj => ?_⟩
    obtain ⟨g, off, rfl⟩ := ha.some (by omega)
    have := ha.cells _ _ (flatF_get fs j (by omega)).2.2.1
    rw [← Nat.add_assoc] at this
    exact ⟨g, off, _, rfl, this, ha.frozen _⟩
  case round =>
    obtain ⟨k, hk, rfl, ho, hall⟩ := hrel
    have HA := Lib.hid hall
    by_cases hlt : k < n
    · obtain ⟨g, off, q, rfl, hc, hf⟩ := hall k hlt
      clear hall ha
      have kl : (k : Int) < (n : Int) := by omega
      have kd : decide (k < n) = true := by simp; omega
      go_wp2
      go_roundw
      case rel =>
        refine ⟨k + 1, by omega, by go_num, ho.setCell (.inl (by simp [blk])) _, fun j hj => ?_⟩
        obtain ⟨g', off', q', h1, h2, h3⟩ := HA.out j hj
        cases h1
        by_cases e : j = k
        · subst e
          exact ⟨g, off, _, rfl, World.cell?_setCell_same _ _ _ h2, by rw [World.frozen?_setCell]; exact h3⟩
        · exact ⟨g, off, q', rfl, by rw [World.cell?_setCell_other _ _ _ _ (by intro h; injection h with _ h _; omega)]; exact h2, by rw [World.frozen?_setCell]; exact h3⟩
      case measure => simp [intOf]; omega
    · have kd : decide (k < n) = false := by simp; omega
      clear hall HA ha
      go_wp2
      go_end0
      exact ⟨rfl, ho⟩

/-- what Cut gives, in one form: the fragments and the error's number are fixed by what it is handed. -/
theorem cut_fix (s : ByteArray) (z : Nat → Int) (m : Nat) (q : Int) (short : Bool) : ∃ (fs : List Fr) (n : Nat) (code : Int), fs.length = n ∧ n ≤ 64 ∧ ∀ w e w', CutPost s z m q short w e w' →
    ∃ ao cap, e = .returned (.tuple #[.slice ao n cap, .int .i64 code]) ∧ Sl w' 39 4 ao n cap (flatF fs) ∧ (∀ k, blk ao = some k → w.heap.size ≤ k) ∧ Only [] w w' := by
  by_cases hb : Bad s.size z m q short
  · refine ⟨[], 0, 1800, rfl, by omega, ?_⟩
    rintro w e w' ⟨ho, (⟨_, rfl⟩ | ⟨h, _⟩)⟩
    · exact ⟨none, 0, rfl, Sl.nil _ _ _, by simp [blk], ho⟩
    · exact absurd hb h
  · by_cases hc : ∃ n, n ≤ 64 ∧ Cuts s.size z m n
    · obtain ⟨n, hn, hc⟩ := hc
      refine ⟨frs s z m q (ring short) n, n, 0, frs_length _ _ _ _ _ _, hn, ?_⟩
      rintro w e w' ⟨ho, (⟨h, _⟩ | ⟨_, n', ao, cap, hn', hc', rfl, hsl, hf⟩)⟩
      · exact absurd h hb
      · have := hc'.unique hc
        subst this
        exact ⟨ao, cap, rfl, hsl, hf, ho⟩
    · refine ⟨[], 0, 0, rfl, by omega, ?_⟩
      rintro w e w' ⟨ho, (⟨h, _⟩ | ⟨_, n', ao, cap, hn', hc', rfl, hsl, hf⟩)⟩
      · exact absurd h hb
      · exact absurd ⟨n', hn', hc'⟩ hc
end Go.Proofs.Ythhhbnbhcedhmaa

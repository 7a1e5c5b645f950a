/- Chapter 19's contracts as the laws take them; awake. -/
import Derived.Test.YtcfgbfabokhjcaaPut
namespace Go.Proofs.Ytcfgbfabokhjcaa
namespace Plain
open Go
theorem letGo_sum (S : J) (k : Int) : (S.letGo k).lost + (S.letGo k).held.length = S.lost + S.held.length := by
  have := from_len S k
  show S.lost + ((S.held.length - (fromL S.R S.next k S.held).length : Nat) : Int) + ((fromL S.R S.next k S.held).length : Int) = _
  omega
theorem tell_sum (S : J) (k : Int) : (S.tell k).lost + (S.tell k).held.length ≤ S.lost + S.held.length := by
  have := from_len S k
  show S.lost + ((fromL S.R S.next k S.held).length : Int) ≤ _
  omega
theorem step_sum {S T : J} {o : Option ByteArray} (h : S.Ok) (hs : S.step = some (T, o)) : T.lost + T.held.length ≤ S.lost + S.held.length := by
  unfold J.step at hs
  cases hg : S.get S.next with
  | some f =>
    rw [hg] at hs
    simp only at hs
    rcases first_cases h hg S.upto with ⟨k, k1, k2, e⟩ | ⟨k, s, k1, k2, e⟩ | e
    · rw [e] at hs
      simp at hs
      obtain ⟨rfl, rfl⟩ := hs
      have := letGo_sum S k
      omega
    · rw [e] at hs
      simp at hs
      obtain ⟨rfl, rfl⟩ := hs
      exact tell_sum S k
    · rw [e] at hs
      simp at hs
  | none =>
    rw [hg] at hs
    simp only at hs
    by_cases h0 : 0 ≤ S.upto
    · rw [if_pos h0] at hs
      simp at hs
      obtain ⟨rfl, rfl⟩ := hs
      exact Int.le_refl _
    · rw [if_neg h0] at hs
      cases hs
/-- what run keeps. -/
structure RunK (S T : J) : Prop where
  ok : T.Ok
  few : (T.held.length : Int) ≤ T.most
  sum : T.lost + T.held.length ≤ S.lost + S.held.length
  most : T.most = S.most
  ring : T.R = S.R
  short : T.short = S.short
  links : T.links = S.links
theorem run_keeps : ∀ (fuel : Nat) (S : J), S.Ok → S.mu < fuel → RunK S (J.runF fuel S).1
  | 0, _, _, h => by omega
  | fuel + 1, S, h, hm => by
    cases hs : S.step with
    | some r =>
      obtain ⟨T, o⟩ := r
      obtain ⟨k1, k2, k3, k4, k5, k6, k7⟩ := step_down h hs
      rw [runF_step hs]
      have ih := run_keeps fuel T k1 (by omega)
      have := step_sum h hs
      exact ⟨ih.ok, ih.few, by have := ih.sum; show (J.runF fuel T).1.lost + ((J.runF fuel T).1.held.length : Int) ≤ _; omega, ih.most.trans k4, ih.ring.trans k5, ih.short.trans k6, ih.links.trans k7⟩
    | none =>
      by_cases hl : (S.held.length : Int) ≤ S.most
      · rw [runF_wait hs hl]
        exact ⟨h, hl, Int.le_refl _, rfl, rfl, rfl, rfl⟩
      · obtain ⟨k1, k2, _⟩ := over_down h (by omega)
        rw [runF_over hs hl]
        have ih := run_keeps fuel _ k1 (by omega)
        have := letGo_sum S (S.least + 1)
        exact ⟨ih.ok, ih.few, by have := ih.sum; omega, ih.most, ih.ring, ih.short, ih.links⟩
theorem run_k {S : J} (h : S.Ok) : RunK S S.run.1 := run_keeps _ S h (Nat.lt_succ_self _)
theorem lay_sum (S : J) (link : Int) (f : Fr) : (S.lay link f).lost + (S.lay link f).held.length = S.lost + S.held.length + 1 := by
  rw [lay_eq]
  split
  · show S.lost + 1 + (S.held.length : Int) = _; omega
  · show S.lost + ((S.held ++ [f]).length : Int) = _; simp; omega
theorem lay_keys (S : J) (link : Int) (f : Fr) : (S.lay link f).links = updI S.links link f.q ∧ (S.lay link f).most = S.most ∧ (S.lay link f).R = S.R ∧ (S.lay link f).short = S.short := by
  rw [lay_eq]
  split <;> exact ⟨rfl, rfl, rfl, rfl⟩
theorem upd_keys (l : List (Int × Int)) (q x : Int) : (updI l q x).map (·.1) = l.map (·.1) := map_put_keys l q x
theorem has_keys (S : J) (q : Int) : S.has q = (S.links.map (·.1)).contains q := by
  show (look S.links q).isSome = _
  rw [Bool.eq_iff_iff]
  simp only [List.contains_iff_mem, List.mem_map]
  constructor
  · intro h
    obtain ⟨x, hx⟩ := Option.isSome_iff_exists.1 h
    exact ⟨_, look_mem hx, rfl⟩
  · rintro ⟨p, hp, rfl⟩
    cases hh : look S.links p.1 with
    | some x => rfl
    | none => exact absurd rfl (look_none.1 hh p hp)
end Plain
open Go.RowKit
open Plain

/-- what Put keeps. -/
structure PutK (S T : J) : Prop where
  few : (T.held.length : Int) ≤ T.most
  sum : T.lost + T.held.length ≤ S.lost + S.held.length + 1
  most : T.most = S.most
  ring : T.R = S.R
  short : T.short = S.short
  keys : T.links.map (·.1) = S.links.map (·.1)
theorem put_k {S : J} (h : S.Ok) (hf : (S.held.length : Int) ≤ S.most) (link : Int) (f : Fr) (hl : S.lost + S.held.length < 1099511627776) : PutK S (putS S link f) := by
  unfold putS
  split
  · rename_i he
    have hm : mayF S.short f = true := by
      unfold putE at he
      split at he
      · cases he
      · split at he
        · cases he
        · rename_i hh; simpa using hh
    have hm1 := h.most1
    have hk := run_k (lay_ok h link hm (by omega) hl)
    have hs := lay_sum S link f
    obtain ⟨e1, e2, e3, e4⟩ := lay_keys S link f
    exact ⟨hk.few, by have := hk.sum; show (S.lay link f).run.1.lost + ((S.lay link f).run.1.held.length : Int) ≤ _; omega, hk.most.trans e2, hk.ring.trans e3, hk.short.trans e4, by show (S.lay link f).run.1.links.map _ = _; rw [hk.links, e1, upd_keys]⟩
  · exact ⟨hf, by omega, rfl, rfl, rfl, rfl⟩

/-- Put at a state that is known. -/
theorem put_at {p bl bh : Nat} {S T : J} {link : Int} {b e : Bool} {q : Int} {d : ByteArray} {w : World} {outs : List ByteArray} {code : Int} (h : PJ w p bl bh S) (l0 : -9223372036854775808 ≤ link) (l1 : link ≤ 9223372036854775807) (hc : S.held.length ≤ 128) (hl : S.lost + S.held.length < 1099511627776)
    (hO : putO S link ⟨b, e, q, d⟩ = outs) (hE : putE S link ⟨b, e, q, d⟩ = code) (hT : putS S link ⟨b, e, q, d⟩ = T) :
    Calls Try.prog 20 #[.pointer (some ⟨p, 0, none⟩), .int .i64 link, .agg #[.bool b, .bool e, .int .i64 q, .string d]] w fun e w' => ∃ ao cap, e = .returned (.tuple #[.slice ao outs.length cap, .int .i64 code]) ∧ Sl w' 9 1 ao outs.length cap (outs.map Value.string) ∧ (∀ k, blk ao = some k → w.heap.size ≤ k) ∧ PJ w' p bl bh T ∧ Only [p, bl, bh] w w' ∧ outs.length ≤ S.held.length + 1 := by
  subst hO hE hT
  exact put_any p bl bh S link ⟨b, e, q, d⟩ w h l0 l1 hc hl

set_option maxRecDepth 100000 in
set_option maxHeartbeats 2000000 in
theorem same_texts (a b : Option Addr) (n ca cb : Nat) (xs : List ByteArray) (w : World) (hn : xs.length = n) (hl : n ≤ 9223372036854775807) (ha : Sl w 9 1 a n ca (xs.map Value.string)) (hb : Sl w 9 1 b n cb (xs.map Value.string)) :
    Calls Try.prog 22 #[.slice a n ca, .slice b n cb] w fun e w' => e = .returned (.bool true) ∧ Only [] w w' := by
  have hne : ((n : Int) != (n : Int)) = false := by simp
  go_enter Try.func22, Try.ntmps22
  go_wp2
  go_loopw [5] (fun i wr => ∃ k : Nat, k ≤ n ∧ i = .int .i64 k ∧ Only [] w wr) (fun i _ => n - (intOf i).toNat)
  case atStart => exact ⟨0, Nat.zero_le _, rfl, Only.refl _ _⟩
  case round =>
    obtain ⟨k, hk, rfl, ho⟩ := hrel
    by_cases hlt : k < n
    · have ha2 := ha.only ho (by simp)
      have hb2 := hb.only ho (by simp)
      obtain ⟨ga, oa, rfl⟩ := ha.some (by omega)
      obtain ⟨gb, ob, rfl⟩ := hb.some (by omega)
      have f0 : (xs.map Value.string)[k]? = some (.string xs[k]) := by simp [show k < xs.length by omega]
      have a0 := ha2.cells _ _ f0
      have b0 := hb2.cells _ _ f0
      clear ha hb ha2 hb2 f0
      generalize xs[k] = x0 at *
      have kl : (k : Int) < (n : Int) := by omega
      have kd : decide (k < n) = true := by simp; omega
      go_wp2_with fail
      refine wp_region_reads mixed (by kernel_rfl) ?_
      repeat (refine wpStill_op rfl rfl (fun K hK => ?_); go_step; refine hK _ ?_; clear hK K)
      refine wpStill_nil ?_
      go_wp2
      go_roundw
      case rel => exact ⟨k+1, by omega, by go_num, ho.drew⟩
      case measure => simp [intOf]; omega
    · have kd : decide (k < n) = false := by simp; omega
      go_wp2
      go_ret
      exact ⟨rfl, ho⟩

def aw0 : J := J.new true 8
def aw1 : J := addS aw0 1
def aw2 : J := putS aw1 1 ⟨true, false, 0, ⟨#[97]⟩⟩
def aw3 : J := putS aw2 1 ⟨false, true, 1, ⟨#[98]⟩⟩
theorem aw_e1 : addE aw0 1 = 0 := by kernel_rfl
theorem aw_o1 : putO aw1 1 ⟨true, false, 0, ⟨#[97]⟩⟩ = [] := by kernel_rfl
theorem aw_c1 : putE aw1 1 ⟨true, false, 0, ⟨#[97]⟩⟩ = 0 := by kernel_rfl
theorem aw_o2 : putO aw2 1 ⟨false, true, 1, ⟨#[98]⟩⟩ = [⟨#[97, 98]⟩] := by kernel_rfl
theorem aw_c2 : putE aw2 1 ⟨false, true, 1, ⟨#[98]⟩⟩ = 0 := by kernel_rfl
theorem aw_o3 : putO aw3 2 ⟨false, false, 0, ⟨#[]⟩⟩ = [] := by kernel_rfl
theorem aw_c3 : putE aw3 2 ⟨false, false, 0, ⟨#[]⟩⟩ = 1902 := by kernel_rfl
theorem aw_t3 : putS aw3 2 ⟨false, false, 0, ⟨#[]⟩⟩ = aw3 := by kernel_rfl
theorem aw_d : dropE aw3 5 = 1902 ∧ dropS aw3 5 = aw3 := by exact ⟨by kernel_rfl, by kernel_rfl⟩
theorem aw_l1 : aw1.held.length = 0 ∧ aw1.lost = 0 := by exact ⟨by kernel_rfl, by kernel_rfl⟩
theorem aw_l2 : aw2.held.length = 1 ∧ aw2.lost = 0 := by exact ⟨by kernel_rfl, by kernel_rfl⟩
theorem aw_l3 : aw3.held.length = 0 ∧ aw3.lost = 0 := by exact ⟨by kernel_rfl, by kernel_rfl⟩

set_option maxRecDepth 100000 in
set_option maxHeartbeats 2000000 in
theorem awake_any (w : World) : Calls Try.prog 15 #[] w fun e w' => e = .returned (.bool true) ∧ Only [] w w' := by
  go_enter Try.func15, Try.ntmps15
  go_wp2_with fail
  refine (new_good true 8 w (by omega) (by omega)).mono ?_
  rintro e w1 ⟨p, bl, bh, rfl, h0, o0, n1, n2, n3⟩
  have h0' : PJ w1 p bl bh aw0 := h0
  clear h0
  go_wp2_with (go_at_call 14; refine (num_any _ _).mono ?_; rintro e w' ⟨rfl, rfl⟩)
  refine (add_any p bl bh aw0 1 w1 h0' (by omega) (by omega)).mono ?_
  rw [aw_e1]
  rintro e w2 ⟨rfl, h1, o1⟩
  have h1' : PJ w2 p bl bh aw1 := h1
  have O1 : Only [p, bl, bh] w w2 := (o0.mono (by simp)).trans (o1.mono (by simp))
  clear h1 h0' o0 o1
  go_wp2_with fail
  refine (put_at h1' (by omega) (by omega) (by rw [aw_l1.1]; omega) (by rw [aw_l1.1, aw_l1.2]; omega) aw_o1 aw_c1 rfl).mono ?_
  rintro e w3 ⟨ao1, cap1, rfl, _, _, h2, o2, _⟩
  have h2' : PJ w3 p bl bh aw2 := h2
  have O2 := O1.trans o2
  clear h2 h1' o2 O1
  go_wp2_with fail
  refine (put_at h2' (by omega) (by omega) (by rw [aw_l2.1]; omega) (by rw [aw_l2.1, aw_l2.2]; omega) aw_o2 aw_c2 rfl).mono ?_
  rintro e w4 ⟨ao2, cap2, rfl, sl, fr, h3, o3, _⟩
  have h3' : PJ w4 p bl bh aw3 := h3
  have O3 := O2.trans o3
  have hsz := O2.size
  have fr2 : ∀ k, blk ao2 = some k → w.heap.size ≤ k ∧ k ≠ p ∧ k ≠ bl ∧ k ≠ bh := fun k hk => by
    have := fr k hk
    have hl := h2'.lt
    refine ⟨by omega, by omega, by omega, by omega⟩
  have HFr := Lib.hid fr2
  clear h3 h2' o3 O2 fr fr2 hsz
  go_wp2_with fail
  refine (put_at h3' (by omega) (by omega) (by rw [aw_l3.1]; omega) (by rw [aw_l3.1, aw_l3.2]; omega) aw_o3 aw_c3 aw_t3).mono ?_
  rintro e w5 ⟨ao3, cap3, rfl, _, _, h4, o4, _⟩
  have O4 := O3.trans o4
  have sl4 := sl.only o4 (fun k hk => by have := HFr.out k hk; simp; omega)
  clear h3' o4 O3 sl
  go_wp2_with fail
  refine (drop_any p bl bh aw3 5 w5 h4 (by omega) (by omega)).mono ?_
  rw [aw_d.1, aw_d.2]
  rintro e w6 ⟨rfl, h5, o5⟩
  have O5 := O4.trans (o5.mono (by simp))
  have sl5 := sl4.only o5 (fun k hk => by have := HFr.out k hk; simp; omega)
  clear h4 o5 O4 sl4
  go_wp2_with fail
  refine (new_bad true 0 w6 (by omega)).mono ?_
  rintro e w' ⟨rfl, rfl⟩
  go_wp2_with (go_at_call 14; refine (num_any _ _).mono ?_; rintro e w' ⟨rfl, rfl⟩)
  have sl6 := sl5.only ((Only.refl [] w6).alloc (.cells #[.string ⟨#[97, 98]⟩] 9)) (by simp)
  have sl7 := sl_laid w6 #[.string ⟨#[97, 98]⟩] 9 1 1 rfl (by unfold maxLen; omega)
  refine (same_texts _ _ 1 _ _ [⟨#[97, 98]⟩] _ rfl (by omega) sl6 sl7).mono ?_
  rintro e w7 ⟨rfl, o6⟩
  have o7 := ((Only.refl [] w6).alloc (.cells #[.string ⟨#[97, 98]⟩] 9)).trans o6
  have O6 := O5.trans (o7.mono (by simp))
  have h6 := h5.only o7 (by simp) (by simp) (by simp)
  have HFin := Lib.hid (show Only [] w w7 from ⟨O6.os, O6.tape, O6.output, O6.size, fun k hk _ => O6.block k hk (by simp; omega)⟩)
  have hh := held_any p bl bh aw3 w7 h6
  have hl := lost_any p bl bh aw3 w7 h6
  rw [aw_l3.1] at hh
  rw [aw_l3.2] at hl
  clear sl6 sl7 sl5 o6 o7 O5 O6 h5 h6 HFr n1 n2 n3
  go_wp2_with (first | (go_at_call 14; refine (num_any _ _).mono ?_; rintro e w' ⟨rfl, rfl⟩) | (go_at_call 23; refine hh.mono ?_; rintro e w' ⟨rfl, rfl⟩) | (go_at_call 25; refine hl.mono ?_; rintro e w' ⟨rfl, rfl⟩))
  go_ret
  exact ⟨rfl, HFin.out⟩
end Go.Proofs.Ytcfgbfabokhjcaa

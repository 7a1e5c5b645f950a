/- The contract of the reference's Unmp. -/
import Derived.Test.YtdpknandacoibaaGet
namespace Go.Proofs.Ytdpknandacoibaa
open Go.RowKit
open Plain
set_option maxRecDepth 100000 in
set_option maxHeartbeats 800000 in
theorem unmp_few_true (s : ByteArray) (w : World) (h : s.size < 2) :
    Calls Try.prog 10 #[.string s, .bool true] w fun x w' => x = .returned (.tuple #[.agg #[.bool false, .bool false, .int .i64 0, .string ⟨#[]⟩], .int .i64 800]) ∧ Only [] w w' := by
  have d1 : decide ((s.size : Int) < 2) = true := by simp; omega
  clear h
  go_enter Try.func10, Try.ntmps10
  go_wp2
  exact bodyPost_ret (v := .tuple #[.agg #[.bool false, .bool false, .int .i64 0, .string ⟨#[]⟩], .int .i64 800]) (by simp [results, Try.results10, go_sem]) rfl ⟨rfl, (by repeat (first | exact Only.refl _ _ | refine Only.drew ?_ | refine Only.alloc ?_ _))⟩
set_option maxRecDepth 100000 in
set_option maxHeartbeats 800000 in
theorem unmp_form_true (s : ByteArray) (w : World) (h : 2 ≤ s.size) (hf : byteAt s 0 / 16 % 4 ≠ 0) :
    Calls Try.prog 10 #[.string s, .bool true] w fun x w' => x = .returned (.tuple #[.agg #[.bool false, .bool false, .int .i64 0, .string ⟨#[]⟩], .int .i64 800]) ∧ Only [] w w' := by
  have d1 : decide ((s.size : Int) < 2) = false := by simp; omega
  have h0 : 0 < s.size := by omega
  have X0 := byteAt_eq s 0 h0
  obtain ⟨x0a, x0b⟩ := byteAt_byte s 0
  generalize byteAt s 0 = x0 at *
  have J : (bits .and .u8 x0 48 != 0) = true := by rw [t48' x0 ⟨x0a, x0b⟩]; simp; omega
  clear hf
  go_enter Try.func10, Try.ntmps10
  go_wp2
  exact bodyPost_ret (v := .tuple #[.agg #[.bool false, .bool false, .int .i64 0, .string ⟨#[]⟩], .int .i64 800]) (by simp [results, Try.results10, go_sem]) rfl ⟨rfl, (by repeat (first | exact Only.refl _ _ | refine Only.drew ?_ | refine Only.alloc ?_ _))⟩
set_option maxRecDepth 100000 in
set_option maxHeartbeats 800000 in
theorem unmp_range_true (s : ByteArray) (w : World) (h : 2048 + 2 < s.size) (hs : s.size ≤ 9223372036854775807) (hf : byteAt s 0 / 16 % 4 = 0) :
    Calls Try.prog 10 #[.string s, .bool true] w fun x w' => x = .returned (.tuple #[.agg #[.bool false, .bool false, .int .i64 0, .string ⟨#[]⟩], .int .i64 801]) ∧ Only [] w w' := by
  have d1 : decide ((s.size : Int) < 2) = false := by simp; omega
  have h0 : 0 < s.size := by omega
  have X0 := byteAt_eq s 0 h0
  obtain ⟨x0a, x0b⟩ := byteAt_byte s 0
  generalize byteAt s 0 = x0 at *
  have J : (bits .and .u8 x0 48 != 0) = false := by rw [t48' x0 ⟨x0a, x0b⟩]; simp; omega
  have d2 : decide (2048 < (s.size : Int) - 2) = true := by simp; omega
  clear hf
  go_enter Try.func10, Try.ntmps10
  go_wp2
  exact bodyPost_ret (v := .tuple #[.agg #[.bool false, .bool false, .int .i64 0, .string ⟨#[]⟩], .int .i64 801]) (by simp [results, Try.results10, go_sem]) rfl ⟨rfl, (by repeat (first | exact Only.refl _ _ | refine Only.drew ?_ | refine Only.alloc ?_ _))⟩
set_option maxRecDepth 100000 in
set_option maxHeartbeats 800000 in
theorem unmp_ok_true (s : ByteArray) (w : World) (h : 2 ≤ s.size) (hs : s.size ≤ 2048 + 2) (hf : byteAt s 0 / 16 % 4 = 0) :
    Calls Try.prog 10 #[.string s, .bool true] w fun x w' => x = .returned (.tuple #[.agg #[.bool (decide (128 ≤ byteAt s 0)), .bool (decide (64 ≤ byteAt s 0 % 128)), .int .i64 (seqOf s true), .string (s.extract 2 s.size)], .int .i64 0]) ∧ Only [] w w' := by
  unfold seqOf
  simp only [if_true]
  have d1 : decide ((s.size : Int) < 2) = false := by simp; omega
  have h0 : 0 < s.size := by omega
  have X0 := byteAt_eq s 0 h0
  obtain ⟨x0a, x0b⟩ := byteAt_byte s 0
  have h1 : 1 < s.size := by omega
  have X1 := byteAt_eq s 1 h1
  obtain ⟨x1a, x1b⟩ := byteAt_byte s 1
  generalize byteAt s 0 = x0 at *
  generalize byteAt s 1 = x1 at *
  have J : (bits .and .u8 x0 48 != 0) = false := by rw [t48' x0 ⟨x0a, x0b⟩]; simp; omega
  have J1 : (bits .and .u8 x0 128 == 128) = decide (128 ≤ x0) := by rw [t128' x0 ⟨x0a, x0b⟩]; split <;> simp <;> omega
  have J2 : (bits .and .u8 x0 64 == 64) = decide (64 ≤ x0 % 128) := by rw [t64' x0 ⟨x0a, x0b⟩]; split <;> simp <;> omega
  have T3 := t15' x0 ⟨x0a, x0b⟩
  have OR1 : bits .or .i64 (x0 % 16 * 256) x1 = x0 % 16 * 256 + x1 := or_add 8 _ _ (by omega) (by omega) x1a (by simp; omega) (by omega) (by omega)
  have d2 : decide (2048 < (s.size : Int) - 2) = false := by simp; omega
  have s2 : (2 : Int) ≤ (s.size : Int) := by omega
  have HV : Hid (x0 % 16 * 256 + x1 = x0 % 64 * 256 + x1) := by show _ = _; omega
  generalize decide (128 ≤ x0) = bb at *
  generalize decide (64 ≤ x0 % 128) = ee at *
  clear hf
  go_enter Try.func10, Try.ntmps10
  go_wp2_with fail
  refine wp_region_mix (fun _ => True) [(0, true), (4, true), (8, true), (9, true), (1, true), (2, true), (3, true), (5, true), (6, true), (7, true), (10, true), (11, true), (12, false), (13, false)] mixed (by kernel_rfl) (fun d v c a w h => by cases d <;> exact h) trivial ?_
  simp only [List.filterMap_cons, List.filterMap_nil, List.getElem?_cons_succ, List.getElem?_cons_zero, Option.map_some]
  repeat (first | refine mix_move rfl ?_ | (refine mix_free rfl (v := ?_) (fun w' h' => ?_) ?_; rotate_left; (focus (go_simp <;> with_reducible rfl))) | (refine mix_op rfl (fun K hK => ?_); go_step; refine hK _ _ trivial ?_; clear hK K))
  refine mix_nil ?_
  go_wp2_with fail
  refine wp_region_free 8 [] [8, 9, 10] mixed (by kernel_rfl) (fun d v c a w h => by cases d <;> exact h) ?_
  simp only [Region.heads, List.range, List.range.loop, List.filter_cons, List.filter_nil, List.contains_cons, List.contains_nil, Nat.reduceBEq, Bool.or_false, Bool.not_true, Bool.not_false, Bool.false_eq_true, if_false, if_true, List.cons_append, List.nil_append, List.filterMap_cons, List.filterMap_nil, List.getElem?_cons_succ, List.getElem?_cons_zero, BEq.rfl]
  repeat (refine wpStill_op rfl rfl (fun K hK => ?_); go_step; refine hK _ ?_; clear hK K)
  refine wpStill_nil ?_
  go_wp2_with fail
  exact bodyPost_ret (v := .tuple #[.agg #[.bool bb, .bool ee, .int .i64 (x0 % 16 * 256 + x1), .string (s.extract 2 s.size)], .int .i64 0]) (by simp [results, Try.results10, go_sem]) rfl ⟨ret_frag (by first | rfl | exact HV.out), (by repeat (first | exact Only.refl _ _ | refine Only.drew ?_ | refine Only.alloc ?_ _))⟩
set_option maxRecDepth 100000 in
set_option maxHeartbeats 800000 in
theorem unmp_few_false (s : ByteArray) (w : World) (h : s.size < 4) :
    Calls Try.prog 10 #[.string s, .bool false] w fun x w' => x = .returned (.tuple #[.agg #[.bool false, .bool false, .int .i64 0, .string ⟨#[]⟩], .int .i64 800]) ∧ Only [] w w' := by
  have d1 : decide ((s.size : Int) < 4) = true := by simp; omega
  clear h
  go_enter Try.func10, Try.ntmps10
  go_wp2
  exact bodyPost_ret (v := .tuple #[.agg #[.bool false, .bool false, .int .i64 0, .string ⟨#[]⟩], .int .i64 800]) (by simp [results, Try.results10, go_sem]) rfl ⟨rfl, (by repeat (first | exact Only.refl _ _ | refine Only.drew ?_ | refine Only.alloc ?_ _))⟩
set_option maxRecDepth 100000 in
set_option maxHeartbeats 800000 in
theorem unmp_form_false (s : ByteArray) (w : World) (h : 4 ≤ s.size) (hf : byteAt s 0 % 64 ≠ 0) :
    Calls Try.prog 10 #[.string s, .bool false] w fun x w' => x = .returned (.tuple #[.agg #[.bool false, .bool false, .int .i64 0, .string ⟨#[]⟩], .int .i64 800]) ∧ Only [] w w' := by
  have d1 : decide ((s.size : Int) < 4) = false := by simp; omega
  have h0 : 0 < s.size := by omega
  have X0 := byteAt_eq s 0 h0
  obtain ⟨x0a, x0b⟩ := byteAt_byte s 0
  generalize byteAt s 0 = x0 at *
  have J : (x0 % 64 != 0) = true := by simp; omega
  clear hf
  go_enter Try.func10, Try.ntmps10
  go_wp2
  exact bodyPost_ret (v := .tuple #[.agg #[.bool false, .bool false, .int .i64 0, .string ⟨#[]⟩], .int .i64 800]) (by simp [results, Try.results10, go_sem]) rfl ⟨rfl, (by repeat (first | exact Only.refl _ _ | refine Only.drew ?_ | refine Only.alloc ?_ _))⟩
set_option maxRecDepth 100000 in
set_option maxHeartbeats 800000 in
theorem unmp_range_false (s : ByteArray) (w : World) (h : 2048 + 4 < s.size) (hs : s.size ≤ 9223372036854775807) (hf : byteAt s 0 % 64 = 0) :
    Calls Try.prog 10 #[.string s, .bool false] w fun x w' => x = .returned (.tuple #[.agg #[.bool false, .bool false, .int .i64 0, .string ⟨#[]⟩], .int .i64 801]) ∧ Only [] w w' := by
  have d1 : decide ((s.size : Int) < 4) = false := by simp; omega
  have h0 : 0 < s.size := by omega
  have X0 := byteAt_eq s 0 h0
  obtain ⟨x0a, x0b⟩ := byteAt_byte s 0
  generalize byteAt s 0 = x0 at *
  have J : (x0 % 64 != 0) = false := by simp; omega
  have d2 : decide (2048 < (s.size : Int) - 4) = true := by simp; omega
  clear hf
  go_enter Try.func10, Try.ntmps10
  go_wp2
  exact bodyPost_ret (v := .tuple #[.agg #[.bool false, .bool false, .int .i64 0, .string ⟨#[]⟩], .int .i64 801]) (by simp [results, Try.results10, go_sem]) rfl ⟨rfl, (by repeat (first | exact Only.refl _ _ | refine Only.drew ?_ | refine Only.alloc ?_ _))⟩
set_option maxRecDepth 100000 in
set_option maxHeartbeats 800000 in
theorem unmp_ok_false (s : ByteArray) (w : World) (h : 4 ≤ s.size) (hs : s.size ≤ 2048 + 4) (hf : byteAt s 0 % 64 = 0) :
    Calls Try.prog 10 #[.string s, .bool false] w fun x w' => x = .returned (.tuple #[.agg #[.bool (decide (128 ≤ byteAt s 0)), .bool (decide (64 ≤ byteAt s 0 % 128)), .int .i64 (seqOf s false), .string (s.extract 4 s.size)], .int .i64 0]) ∧ Only [] w w' := by
  unfold seqOf
  simp only [Bool.false_eq_true, if_false]
  have d1 : decide ((s.size : Int) < 4) = false := by simp; omega
  have h0 : 0 < s.size := by omega
  have X0 := byteAt_eq s 0 h0
  obtain ⟨x0a, x0b⟩ := byteAt_byte s 0
  have h1 : 1 < s.size := by omega
  have X1 := byteAt_eq s 1 h1
  obtain ⟨x1a, x1b⟩ := byteAt_byte s 1
  have h2 : 2 < s.size := by omega
  have X2 := byteAt_eq s 2 h2
  obtain ⟨x2a, x2b⟩ := byteAt_byte s 2
  have h3 : 3 < s.size := by omega
  have X3 := byteAt_eq s 3 h3
  obtain ⟨x3a, x3b⟩ := byteAt_byte s 3
  generalize byteAt s 0 = x0 at *
  generalize byteAt s 1 = x1 at *
  generalize byteAt s 2 = x2 at *
  generalize byteAt s 3 = x3 at *
  have J : (x0 % 64 != 0) = false := by simp; omega
  have J1 : (bits .and .u8 x0 128 == 128) = decide (128 ≤ x0) := by rw [t128' x0 ⟨x0a, x0b⟩]; split <;> simp <;> omega
  have J2 : (bits .and .u8 x0 64 == 64) = decide (64 ≤ x0 % 128) := by rw [t64' x0 ⟨x0a, x0b⟩]; split <;> simp <;> omega
  have OR1 : bits .or .i64 (x1 * 65536) (x2 * 256) = x1 * 65536 + x2 * 256 := or_add 16 _ _ (by omega) (by omega) (by omega) (by simp; omega) (by omega) (by omega)
  have OR2 : bits .or .i64 (x1 * 65536 + x2 * 256) x3 = x1 * 65536 + x2 * 256 + x3 := or_add 8 _ _ (by omega) (by omega) x3a (by simp; omega) (by omega) (by omega)
  have d2 : decide (2048 < (s.size : Int) - 4) = false := by simp; omega
  have s2 : (4 : Int) ≤ (s.size : Int) := by omega
  have HV : Hid (x1 * 65536 + x2 * 256 + x3 = x1 * 65536 + x2 * 256 + x3) := by show _ = _; omega
  generalize decide (128 ≤ x0) = bb at *
  generalize decide (64 ≤ x0 % 128) = ee at *
  clear hf
  go_enter Try.func10, Try.ntmps10
  go_wp2_with fail
  refine wp_region_mix (fun _ => True) [(0, true), (4, true), (8, true), (9, true), (1, true), (2, true), (3, true), (5, true), (6, true), (7, true), (10, true), (11, true), (12, false), (13, false)] mixed (by kernel_rfl) (fun d v c a w h => by cases d <;> exact h) trivial ?_
  simp only [List.filterMap_cons, List.filterMap_nil, List.getElem?_cons_succ, List.getElem?_cons_zero, Option.map_some]
  repeat (first | refine mix_move rfl ?_ | (refine mix_free rfl (v := ?_) (fun w' h' => ?_) ?_; rotate_left; (focus (go_simp <;> with_reducible rfl))) | (refine mix_op rfl (fun K hK => ?_); go_step; refine hK _ _ trivial ?_; clear hK K))
  refine mix_nil ?_
  go_wp2_with fail
  refine wp_region_free 12 [] [12, 13, 14] mixed (by kernel_rfl) (fun d v c a w h => by cases d <;> exact h) ?_
  simp only [Region.heads, List.range, List.range.loop, List.filter_cons, List.filter_nil, List.contains_cons, List.contains_nil, Nat.reduceBEq, Bool.or_false, Bool.not_true, Bool.not_false, Bool.false_eq_true, if_false, if_true, List.cons_append, List.nil_append, List.filterMap_cons, List.filterMap_nil, List.getElem?_cons_succ, List.getElem?_cons_zero, BEq.rfl]
  repeat (refine wpStill_op rfl rfl (fun K hK => ?_); go_step; refine hK _ ?_; clear hK K)
  refine wpStill_nil ?_
  go_wp2_with fail
  exact bodyPost_ret (v := .tuple #[.agg #[.bool bb, .bool ee, .int .i64 (x1 * 65536 + x2 * 256 + x3), .string (s.extract 4 s.size)], .int .i64 0]) (by simp [results, Try.results10, go_sem]) rfl ⟨ret_frag (by first | rfl | exact HV.out), (by repeat (first | exact Only.refl _ _ | refine Only.drew ?_ | refine Only.alloc ?_ _))⟩
end Go.Proofs.Ytdpknandacoibaa

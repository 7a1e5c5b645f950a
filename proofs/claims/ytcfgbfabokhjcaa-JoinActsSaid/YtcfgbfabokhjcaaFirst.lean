/- The contract of chapter 19's first. -/
import Derived.Test.YtcfgbfabokhjcaaPacket
namespace Go.Proofs.Ytcfgbfabokhjcaa
namespace Plain
open Go
theorem scan_n (S : J) : ∀ (fuel i : Nat) (d : List UInt8), (S.scan fuel i d).2.1 ≤ i + fuel
  | 0, i, d => by simp [J.scan]
  | fuel + 1, i, d => by
    rw [scan_succ]
    cases S.get (pos S.R S.next i) with
    | none => simp
    | some f =>
      simp only
      split
      · simp
      · split
        · simp
        · have := scan_n S fuel (i + 1) (d ++ f.d.data.toList); omega
theorem from_zero {S : J} (h : IsRing S.R) : fromL S.R S.next 0 S.held = S.held := by
  unfold fromL
  refine List.filter_eq_self.2 (fun f _ => ?_)
  have := (off_bd (n := S.next) (q := f.q) h).1
  simpa using this
theorem from_succ {S : J} (h : S.Ok) (k : Nat) (hk : (k : Int) < S.R) : (fromL S.R S.next k S.held).filter (fun f => f.q != pos S.R S.next k) = fromL S.R S.next ((k + 1 : Nat) : Int) S.held := by
  unfold fromL
  rw [List.filter_filter]
  refine List.filter_congr (fun f hf => ?_)
  obtain ⟨a, b, _⟩ := h.frag f hf
  have e1 := off_pos (n := S.next) h.isRing (i := (k : Int)) (by omega) hk
  have e2 := pos_off (n := S.next) h.isRing a b
  by_cases e : f.q = pos S.R S.next k
  · rw [e]
    have : ¬ ((k + 1 : Nat) : Int) ≤ off S.R S.next (pos S.R S.next k) := by rw [e1]; omega
    simp only [bne_self_eq_false, Bool.false_and]
    exact (decide_eq_false this).symm
  · have hne : off S.R S.next f.q ≠ k := fun e' => e (by rw [← e', e2])
    have h1 : (f.q != pos S.R S.next k) = true := by simp [e]
    rw [h1, Bool.true_and]
    simp only [decide_eq_decide]
    omega
theorem sub_ok {S : J} (h : S.Ok) (l : List Fr) (hl : l.Sublist S.held) (n : Int) (n0 : 0 ≤ n) (n1 : n < S.R) : J.Ok { S with held := l, next := n } := by
  have := hl.length_le
  have h1 := h.lost1
  have h2 := h.count
  exact ⟨h.ring, n0, n1, h.most0, h.most1, h.nodup.sublist (hl.map _), fun f hf => h.frag f (hl.subset hf), h.lnodup, h.link, h.links8, by show l.length ≤ 129; omega, h.lost0, by show S.lost + (l.length : Int) ≤ _; omega⟩
end Plain
open Go.RowKit
open Plain

theorem PJ.setNext {w : World} {p bl bh : Nat} {S : J} (h : PJ w p bl bh S) (n : Int) (n0 : 0 ≤ n) (n1 : n < S.R) : PJ (w.setCell ⟨p, 1, none⟩ (.int .i64 n)) p bl bh { S with next := n } := by
  refine ⟨?_, h.links.setCell (Ne.symm h.p_bl) _, h.held.setCell (Ne.symm h.p_bh) _, h.ne, sub_ok h.ok S.held (List.Sublist.refl _) n n0 n1⟩
  have := heap_setCell_same (o := 1) h.obj (.int .i64 n)
  rw [this]
  rfl

/-- what first hands back. -/
def firstV (r : J × Option ByteArray × Bool) : Value := .tuple #[.string (r.2.1.getD ⟨#[]⟩), .bool r.2.1.isSome, .bool r.2.2]
theorem ret_v {r : J × Option ByteArray × Bool} {s : ByteArray} {a b : Bool} (h : firstV r = .tuple #[.string s, .bool a, .bool b]) : Ending.returned (.tuple #[.string s, .bool a, .bool b]) = .returned (firstV r) := by rw [h]

theorem PJ.strikeAt {w w' : World} {p bl bh : Nat} {S : J} (h : PJ w p bl bh S) (k : Nat) (hk : (k : Int) < S.R) {w1 : World} (h1 : PJ w1 p bl bh { S with held := fromL S.R S.next k S.held }) (hm1 : HasMap Try.prog 3 frV w' bh (strike (hm (fromL S.R S.next k S.held)) (pos S.R S.next k))) (ht : w1.mapTurned w' bh) :
    PJ w' p bl bh { S with held := fromL S.R S.next ((k + 1 : Nat) : Int) S.held } := by
  have o := only_turned ht
  refine ⟨o.at h1.obj (by simpa using h1.p_bh), h1.links.same (o.block _ h1.lt.2.1 (by simpa using h1.ne)), ?_, h.ne, ?_⟩
  · rw [hm_strike, from_succ h.ok k hk] at hm1
    exact hm1
  · exact sub_ok h.ok _ List.filter_sublist S.next h.ok.next0 h.ok.next1

/-- what the region keeps. -/
def Kf (p bl bh : Nat) (S : J) (w w' : World) : Prop := PJ w' p bl bh S ∧ Only [p, bh] w w'
theorem Kf.drew {p bl bh : Nat} {S : J} {w w' : World} (h : Kf p bl bh S w w') : Kf p bl bh S w w'.drew := ⟨h.1.drew, h.2.drew⟩

theorem Kf.alloc {p bl bh : Nat} {S : J} {w w' : World} (h : Kf p bl bh S w w') (o : Obj) : Kf p bl bh S w (w'.alloc o) := ⟨h.1.alloc o, h.2.alloc o⟩
theorem Kf.own {p bl bh : Nat} {S : J} {w w' w2 : World} {T : Nat} (h : Kf p bl bh S w w') (o : Only [T] w' w2) (hT : w.heap.size ≤ T) (h1 : p < T) (h2 : bl < T) (h3 : bh < T) : Kf p bl bh S w w2 :=
  ⟨h.1.only o (by simp; omega) (by simp; omega) (by simp; omega), h.2.trans' o (fun x hx => by right; simp at hx; omega)⟩

set_option maxRecDepth 100000 in
set_option maxHeartbeats 4000000 in
theorem first_open (p bl bh : Nat) (S : J) (f : Fr) (m : Int) (w : World) (h : PJ w p bl bh S) (hb : f.b = false) :
    Calls Try.prog 43 #[.pointer (some ⟨p, 0, none⟩), .agg #[.bool f.b, .bool f.e, .int .i64 f.q, .string f.d], .int .i64 m] w fun e w' => e = .returned (firstV (S.first f m)) ∧ PJ w' p bl bh (S.first f m).1 ∧ Only [p, bh] w w' := by
  have e1 : S.first f m = (S.letGo 1, none, true) := by unfold J.first; rw [if_pos hb]
  rw [e1, hb]
  have r := h.ok.r0
  have hcall := fun w' (hp : PJ w' p bl bh S) => let_any p bl bh S 1 w' hp (by omega) (by omega)
  have HC := Lib.hid hcall
  have HA := Lib.hid (fun o => h.alloc o)
  obtain ⟨fb, fe, fq, fd⟩ := f
  clear e1 hb hcall r h
  go_enter Try.func43, Try.ntmps43
  go_wp2_with fail
  refine (HC.out _ (HA.out _)).mono ?_
  rintro e w' ⟨rfl, hp, ho⟩
  have O1 : Only [p, bh] w w' := ((Only.refl _ _).alloc _).trans ho
  clear ho HC HA
  go_wp2_with fail
  go_ret3
  exact ⟨rfl, hp, O1⟩

set_option maxRecDepth 100000 in
set_option maxHeartbeats 4000000 in
theorem first_begin (p bl bh : Nat) (S : J) (f : Fr) (m : Int) (w : World) (h : PJ w p bl bh S) (hb : f.b = true) (_m0 : -16777216 ≤ m) (_m1 : m ≤ 16777216) :
    Calls Try.prog 43 #[.pointer (some ⟨p, 0, none⟩), .agg #[.bool f.b, .bool f.e, .int .i64 f.q, .string f.d], .int .i64 m] w fun e w' => e = .returned (firstV (S.first f m)) ∧ PJ w' p bl bh (S.first f m).1 ∧ Only [p, bh] w w' := by
  have r := h.ok.r0
  have hcnt := h.ok.count
  have hsn := scan_n S (S.held.length + 1) 0 []
  obtain ⟨r1, r2⟩ := r
  have HP := Lib.hid (fun o => h.alloc o)
  have HPk := Lib.hid (fun w hp => packet_any p bl bh S w hp)
  have HR := Lib.hid h.ok.isRing
  have HO := Lib.hid h.ok
  have HZ := Lib.hid (from_zero h.ok.isRing)
  have e1 : S.first f m = (if (S.scan (S.held.length + 1) 0 []).2.2 = true then (S.tell (S.scan (S.held.length + 1) 0 []).2.1, some ⟨(S.scan (S.held.length + 1) 0 []).1.toArray⟩, true)
    else if (S.get (pos S.R S.next (S.scan (S.held.length + 1) 0 []).2.1)).isSome = true then (S.letGo (S.scan (S.held.length + 1) 0 []).2.1, none, true)
    else if ((S.scan (S.held.length + 1) 0 []).2.1 : Int) ≤ m then (S.letGo ((S.scan (S.held.length + 1) 0 []).2.1 + 1), none, true)
    else (S, none, false)) := by unfold J.first; rw [if_neg (by simp [hb])]
  rw [e1, hb]
  clear e1
  generalize S.scan (S.held.length + 1) 0 [] = rr at *
  obtain ⟨l, n, wh⟩ := rr
  simp only at hsn HPk ⊢
  obtain ⟨fb, fe, fq, fd⟩ := f
  have hn : n ≤ 130 := by omega
  clear hsn hcnt hb
  cases wh
  · rw [if_neg (by simp)]
    have hlt := h.lt
    obtain ⟨lt1, lt2, lt3⟩ := hlt
    have hpb := pos_bd (n := S.next) (q := (n : Int)) HR.out
    obtain ⟨q0, q1⟩ := hpb
    have HC := Lib.hid (fun w' (hp : PJ w' p bl bh S) => pos_any p S.R S.next n w' HR.out hp.ok.next0 hp.ok.next1 (by omega) (by omega) hp.c0 hp.c1)
    have HLt := Lib.hid (fun w' (hp : PJ w' p bl bh S) => let_any p bl bh S n w' hp (by omega) (by omega))
    have HLt1 := Lib.hid (fun w' (hp : PJ w' p bl bh S) => let_any p bl bh S (n + 1) w' hp (by omega) (by omega))
    generalize pos S.R S.next (n : Int) = q at *
    have HLk := Lib.hid (fun w' (hp : PJ w' p bl bh S) => hp.heldAt q (by omega) (by omega))
    generalize hX : (if (S.get q).isSome = true then (S.letGo n, none, true) else if (n : Int) ≤ m then (S.letGo (n + 1), none, true) else (S, none, false) : J × Option ByteArray × Bool) = X
    have HX := Lib.hid hX
    clear hX
    go_enter Try.func43, Try.ntmps43
    go_wp2_with fail
    refine (HPk.out _ (HP.out _)).mono ?_
    rintro e w1 ⟨rfl, ho⟩
    have K1 : Kf p bl bh S w w1 := ⟨(HP.out (.cells #[.bool true, .bool fe, .int .i64 fq, .string fd] 33)).only ho (by simp) (by simp) (by simp), ((Only.refl [] w).alloc _).trans ho |>.mono (by simp)⟩
    have hw1 : w.heap.size ≤ w1.heap.size := K1.2.size
    clear ho HPk HP h HZ
    go_wp2_with fail
    refine wp_region_part (Kf p bl bh S w) [(0, true), (4, true), (7, true), (1, true), (2, true), (3, true), (5, true), (6, true)] 8 #[true, true, true, true, true, true, true, true, false, false, false, false, false, false, false, false] mixed (by kernel_rfl) (fun d v c a w h => by cases d <;> exact h) K1.drew ?_
    simp only [List.filterMap_cons, List.filterMap_nil, List.getElem?_cons_succ, List.getElem?_cons_zero, Option.map_some]
    have K2 := K1.drew
    have hw2 : w.heap.size ≤ w1.drew.heap.size := hw1
    clear K1 hw1
    generalize w1.drew = w2 at *
    iterate 3 (refine mixR_move rfl ?_)
    iterate 5 (refine mixR_free rfl (v := ?_) (fun w' h' => ?_) ?_; rotate_left; (focus (have c5 := h'.1.c5; go_simp <;> with_reducible rfl)))
    refine mixR_nil ?_
    intro hS
    refine anyH_two 8 13 _ _ (by kernel_rfl) rfl rfl rfl rfl (fun K hK => ?_) (fun K hK => ?_)
    focus
      go_step
      refine (HC.out _ K2.1).mono ?_
      rintro e w3 ⟨rfl, rfl⟩
      refine hK _ _ K2.drew ?_
      clear hK K
      have K3 := K2.drew
      generalize w2.drew = w3 at *
      refine anyH_mix [(9, true), (10, true), (11, true), (12, true), (13, false), (14, false), (15, false)] (by kernel_rfl) (by kernel_rfl) (fun d v c a w h => by cases d <;> exact h) K3 ?_
      simp only [mixOps, List.filterMap_cons, List.filterMap_nil, List.getElem?_toArray, List.getElem?_cons_succ, List.getElem?_cons_zero, Option.map_some]
      (refine mix_free rfl (v := ?_) (fun w' h' => ?_) ?_; rotate_left; (focus (have lk := HLk.out _ h'.1; go_simp <;> with_reducible rfl)))
      refine mix_move rfl ?_
      iterate 2 (refine mix_free rfl (v := ?_) (fun w' h' => ?_) ?_; rotate_left; (focus (go_simp <;> with_reducible rfl)))
      with_reducible refine mix_op ?_ ?_
      · rfl
      intro K hK
      go_step
      refine hK _ _ (K3.alloc _) ?_
      clear hK K
      with_reducible refine mix_op ?_ ?_
      · rfl
      intro K hK
      go_step
      have K4 := K3.alloc (.cells #[.bool ((S.get q).getD zeroF).b, .bool ((S.get q).getD zeroF).e, .int .i64 ((S.get q).getD zeroF).q, .string ((S.get q).getD zeroF).d] 33)
      refine hK _ _ K4 ?_
      clear hK K
      generalize w3.alloc _ = w4 at *
      generalize w3.heap.size = T at *
      clear K3
      with_reducible refine mix_op ?_ ?_
      · rfl
      intro K hK
      go_step
      refine hK _ _ K4 ?_
      clear hK K
      refine mix_nil ?_
    rotate_left
    focus
      go_step
      have K3 := K2.alloc (.cells #[.bool false, .bool false, .int .i64 0, .string ⟨#[]⟩] 33)
      have hb0 := heap_alloc_new' w2 (.cells #[.bool false, .bool false, .int .i64 0, .string ⟨#[]⟩] 33)
      refine hK _ _ K3 ?_
      clear hK K K2
      generalize w2.alloc _ = w3 at *
      generalize w2.heap.size = T at *
      refine anyH_mix [(8, false), (9, true), (10, true), (11, true), (12, true), (14, false), (15, false)] (by kernel_rfl) (by kernel_rfl) (fun d v c a w h => by cases d <;> exact h) K3 ?_
      simp only [mixOps, List.filterMap_cons, List.filterMap_nil, List.getElem?_toArray, List.getElem?_cons_succ, List.getElem?_cons_zero, Option.map_some]
      with_reducible refine mix_op ?_ ?_
      · rfl
      intro K hK
      go_step
      refine (HC.out _ K3.1).mono ?_
      rintro e w4 ⟨rfl, rfl⟩
      refine hK _ _ K3.drew ?_
      clear hK K
      have K4 := K3.drew
      have hb1 : w3.drew.heap[T]? = _ := hb0
      generalize w3.drew = w4 at *
      clear K3 hb0
      (refine mix_free rfl (v := ?_) (fun w' h' => ?_) ?_; rotate_left; (focus (have lk := HLk.out _ h'.1; go_simp <;> with_reducible rfl)))
      refine mix_move rfl ?_
      iterate 2 (refine mix_free rfl (v := ?_) (fun w' h' => ?_) ?_; rotate_left; (focus (go_simp <;> with_reducible rfl)))
      have hc0 := cell_of hb1 0
      have hc1 := cell_of hb1 1
      have hc2 := cell_of hb1 2
      have hc3 := cell_of hb1 3
      simp only [List.getElem?_toArray, List.getElem?_cons_succ, List.getElem?_cons_zero] at hc0 hc1 hc2 hc3
      have hf0 := frozen_of hb1 0
      have hf1 := frozen_of hb1 1
      have hf2 := frozen_of hb1 2
      have hf3 := frozen_of hb1 3
      with_reducible refine mix_op ?_ ?_
      · rfl
      intro K hK
      go_step
      have hs4 := (set4 hb1 (.bool ((S.get q).getD zeroF).b) (.bool ((S.get q).getD zeroF).e) (.int .i64 ((S.get q).getD zeroF).q) (.string ((S.get q).getD zeroF).d)).2
      have K5 := K4.own hs4 (by omega) (by omega) (by omega) (by omega)
      clear K4
      have K4 := K5
      clear K5
      refine hK _ _ K4 ?_
      clear hK K hs4 hb1 hc0 hc1 hc2 hc3 hf0 hf1 hf2 hf3
      generalize (((w4.setCell _ _).setCell _ _).setCell _ _).setCell _ _ = w5 at *
      with_reducible refine mix_op ?_ ?_
      · rfl
      intro K hK
      go_step
      refine hK _ _ K4 ?_
      clear hK K
      refine mix_nil ?_
    all_goals
      clear hS HC HLk
      by_cases hgs : (S.get q).isSome = true
      · have HXc := Lib.hid (show X = (S.letGo n, none, true) by rw [← HX.out, if_pos hgs])
        rw [hgs]
        go_wp2_with fail
        refine (HLt.out _ K4.1).mono ?_
        rintro e w' ⟨rfl, hp, ho⟩
        have O1 := K4.2.trans ho
        clear ho HLt HLt1 K4 hgs
        go_wp2_with fail
        go_ret3
        rw [HXc.out]
        exact ⟨rfl, hp, O1⟩
      have hgs' : (S.get q).isSome = false := by simpa using hgs
      rw [hgs']
      by_cases hnm : (n : Int) ≤ m
      · have d0 : decide ((n : Int) ≤ m) = true := by simpa using hnm
        have HXc := Lib.hid (show X = (S.letGo (n + 1), none, true) by rw [← HX.out, if_neg hgs, if_pos hnm])
        clear hgs hgs'
        go_wp2_with fail
        refine (HLt1.out _ K4.1).mono ?_
        rintro e w' ⟨rfl, hp, ho⟩
        have O1 := K4.2.trans ho
        clear ho HLt HLt1 K4 hnm
        go_wp2_with fail
        go_ret3
        rw [HXc.out]
        exact ⟨rfl, hp, O1⟩
      · have d0 : decide ((n : Int) ≤ m) = false := by simpa using hnm
        have HXc := Lib.hid (show X = (S, none, false) by rw [← HX.out, if_neg hgs, if_neg hnm])
        clear HLt HLt1 hgs hgs'
        go_wp2_with fail
        go_ret3
        rw [HXc.out]
        exact ⟨rfl, K4.1, K4.2⟩
  · rw [if_pos rfl]
    go_enter Try.func43, Try.ntmps43
    go_wp2_with fail
    refine (HPk.out _ (HP.out _)).mono ?_
    rintro e w1 ⟨rfl, ho⟩
    have K0 : Kf p bl bh { S with held := fromL S.R S.next ((0 : Nat) : Int) S.held } w w1 := by
      refine ⟨?_, ((Only.refl [] w).alloc _).trans ho |>.mono (by simp)⟩
      have := (HP.out (.cells #[.bool true, .bool fe, .int .i64 fq, .string fd] 33)).only ho (by simp) (by simp) (by simp)
      rw [show ((0 : Nat) : Int) = 0 from rfl, HZ.out]
      exact this
    have HPw := Lib.hid h
    clear ho HPk HP h HZ
    go_wp2_with fail
    go_loopw [28] (fun i wr => ∃ k : Nat, i = .int .i64 k ∧ k ≤ n ∧ Kf p bl bh { S with held := fromL S.R S.next (k : Int) S.held } w wr) (fun i _ => n - (intOf i).toNat)
    case atStart => exact ⟨0, rfl, by omega, K0⟩
    case round =>
      clear K0
      obtain ⟨k, rfl, hk, K1⟩ := hrel
      by_cases hlt : k < n
      · have d0 : decide ((k : Int) < (n : Int)) = true := by simp; omega
        have d1 : decide (k < n) = true := by simp; omega
        have hpb := pos_bd (n := S.next) (q := (k : Int)) HR.out
        obtain ⟨q0, q1⟩ := hpb
        have HC := Lib.hid (fun w' (hp : PJ w' p bl bh { S with held := fromL S.R S.next (k : Int) S.held }) => pos_any p S.R S.next k w' HR.out hp.ok.next0 hp.ok.next1 (by omega) (by omega) hp.c0 hp.c1)
        have HD := Lib.hid (fun w' w1 (h1 : PJ w1 p bl bh { S with held := fromL S.R S.next (k : Int) S.held }) a b => HPw.out.strikeAt (w' := w') k (by omega) h1 a b)
        generalize pos S.R S.next (k : Int) = q at *
        go_wp2_with fail
        refine wp_region_mix (fun w' => w'.cell? ⟨p, 5, none⟩ = some (.map (some bh))) [(0, true), (4, true), (7, true), (1, true), (2, true), (3, true), (5, false), (6, false), (8, false), (9, false)] mixed (by kernel_rfl) (fun d v c a w h => by cases d <;> exact h) K1.drew.1.c5 ?_
        simp only [List.filterMap_cons, List.filterMap_nil, List.getElem?_cons_succ, List.getElem?_cons_zero, Option.map_some]
        have K2 := K1.drew
        clear K1
        generalize wr.drew = w2 at *
        iterate 3 (refine mix_move rfl ?_)
        iterate 3 (refine mix_free rfl (v := ?_) (fun w' h' => ?_) ?_; rotate_left; (focus (go_simp <;> with_reducible rfl)))
        iterate 2 ((with_reducible refine mix_op ?_ ?_); (focus rfl); intro K hK; go_step; refine hK _ _ K2.1.c5 ?_; clear hK K)
        with_reducible refine mix_op ?_ ?_
        · rfl
        intro K hK
        go_step
        refine (HC.out _ K2.1).mono ?_
        rintro e w3 ⟨rfl, rfl⟩
        refine hK _ _ K2.drew.1.c5 ?_
        clear hK K
        have K3 := K2.drew
        generalize w2.drew = w3 at *
        clear K2
        have hwf : (Lit.int .i64 q).wf = true := wf_int (by omega) (by omega)
        obtain ⟨w4, hrun, hm4, ht4⟩ := K3.1.held.drop (ty := 0) keyed Try.underlying3 Try.underlying70 hwf
        have K4 : Kf p bl bh { S with held := fromL S.R S.next ((k + 1 : Nat) : Int) S.held } w w4 := ⟨HD.out w4 w3 K3.1 hm4 ht4, K3.2.trans ((only_turned ht4).mono (by simp))⟩
        clear hm4 ht4
        with_reducible refine mix_op ?_ ?_
        · rfl
        intro K hK
        go_step
        refine hK _ _ K4.1.c5 ?_
        clear hK K hrun K3
        refine mix_nil ?_
        go_wp2_with fail
        go_roundw
        case rel => exact ⟨k + 1, by go_num, by omega, K4⟩
        case measure => simp [intOf]; omega
      · have d0 : decide ((k : Int) < (n : Int)) = false := by simp; omega
        have d1 : decide (k < n) = false := by simp; omega
        obtain rfl : k = n := by omega
        have hc := pos_any p S.R S.next k wr HR.out HO.out.next0 HO.out.next1 (by omega) (by omega) K1.1.c0 K1.1.c1
        have hpb := pos_bd (n := S.next) (q := (k : Int)) HR.out
        have hfin : PJ (wr.drew.setCell ⟨p, 1, none⟩ (.int .i64 (pos S.R S.next k))) p bl bh (S.tell k) ∧ Only [p, bh] w (wr.drew.setCell ⟨p, 1, none⟩ (.int .i64 (pos S.R S.next k))) :=
          ⟨K1.1.drew.setNext _ hpb.1 hpb.2, K1.2.drew.setCell (.inl (by simp)) _⟩
        have fz := K1.1.fz 1
        have c1 : wr.cell? ⟨p, 1, none⟩ = some (.int .i64 S.next) := K1.1.c1
        have HF := Lib.hid hfin
        clear hfin hpb K1 hk hlt
        generalize pos S.R S.next (k : Int) = q at *
        go_wp2_with (go_at_call 44; refine hc.mono ?_; rintro e w' ⟨rfl, rfl⟩)
        go_ret3
        exact ⟨rfl, HF.out⟩
end Go.Proofs.Ytcfgbfabokhjcaa

/- The contract of chapter 20's row: the links that do not drain, from one on, round. -/
import Derived.Test.YtjcndeanojeffaaSort
namespace Go.Proofs.Ytjcndeanojeffaa
namespace Plain
open Go
def Q.isFree (S : Q) (k : Int) : Bool := match S.lane k with | some L => !L.drains | none => false
/-- what lies ahead, behind. -/
def Q.ahead (S : Q) (link : Int) (l : List Int) : List Int := l.filter fun k => S.isFree k && decide (k < link)
def Q.behind (S : Q) (link : Int) (l : List Int) : List Int := l.filter fun k => S.isFree k && !decide (k < link)
theorem isFree_iff {S : Q} (hn : (S.lanes.map (·.1)).Nodup) (k : Int) : S.isFree k = true ↔ k ∈ S.free := by
  rw [mem_free]
  unfold Q.isFree
  constructor
  · intro h
    cases hl : S.lane k with
    | none => rw [hl] at h; cases h
    | some L => rw [hl] at h; exact ⟨L, lane_mem hl, by simpa using h⟩
  · rintro ⟨L, h1, h2⟩
    have : S.lane k = some L := look_of_mem hn h1
    rw [this]
    simp [h2]
theorem row_parts {S : Q} (hn : (S.lanes.map (·.1)).Nodup) (link : Int) {l : List Int} (hl : ∀ x, x ∈ l ↔ x ∈ S.lanes.map (·.1)) : sortL (S.behind link l) ++ sortL (S.ahead link l) = S.row link := by
  have hf : ∀ x, x ∈ S.free → x ∈ l := fun x hx => by
    obtain ⟨L, h1, _⟩ := mem_free.1 hx
    exact (hl x).2 (List.mem_map.2 ⟨_, h1, rfl⟩)
  unfold Q.row
  congr 1
  · refine sortL_eq (fun x => ?_)
    unfold Q.behind
    rw [List.mem_filter, List.mem_filter, Bool.and_eq_true, isFree_iff hn]
    constructor
    · rintro ⟨_, a, b⟩; exact ⟨a, b⟩
    · rintro ⟨a, b⟩; exact ⟨hf x a, a, b⟩
  · refine sortL_eq (fun x => ?_)
    unfold Q.ahead
    rw [List.mem_filter, List.mem_filter, Bool.and_eq_true, isFree_iff hn]
    constructor
    · rintro ⟨_, a, b⟩; exact ⟨a, b⟩
    · rintro ⟨a, b⟩; exact ⟨hf x a, a, b⟩
end Plain
open Go.RowKit
open Plain
theorem perm_step' {α : Type} {l done todo : List (Int × α)} (hp : (done ++ todo).Perm l) (hn : (todo.map (·.1)).Nodup) {p : Int × α} (hm : p ∈ todo) : ((done ++ [p]) ++ strike todo p.1).Perm l := by
  rw [List.append_assoc]
  exact ((strike_perm hn hm).symm.append_left done).trans hp

theorem find_nodup {M : List LM} (hn : (M.map LM.k).Nodup) {x : LM} (hx : x ∈ M) : (M.find? fun y => y.k == x.k) = some x := by
  induction M with
  | nil => cases hx
  | cons a M ih =>
    rw [List.map_cons, List.nodup_cons] at hn
    rw [List.find?_cons]
    rcases List.mem_cons.1 hx with rfl | hx
    · simp
    · have : (a.k == x.k) = false := by simp; exact fun e => hn.1 (List.mem_map.2 ⟨x, hx, e.symm⟩)
      rw [this]
      exact ih hn.2 hx
theorem PQ.at_mem {w : World} {m : Mem} {S : Q} (h : PQ w m S) {x : LM} (hx : x ∈ m.M) : m.at_ x.k = some x := find_nodup h.keys hx
/-- Sort, at nothing too. -/
theorem sort_sl (l : List Int) (ao : Option Addr) (cap : Nat) (w : World) (hn : l.length ≤ 8) (hnd : l.Nodup) (h : Sl w 3 1 ao l.length cap (ints l)) (h0 : l = [] → ao = none) :
    Calls Try.prog 23 #[.slice ao l.length cap] w fun e w' => e = .returned (.tuple #[]) ∧ Sl w' 3 1 ao l.length cap (ints (sortL l)) ∧ Only (blk ao).toList w w' := by
  cases l with
  | nil =>
    have e := h0 rfl
    subst e
    have hc : cap = 0 := by
      rcases h.2.2.2 with ⟨_, hc⟩ | ⟨g, off, cur, e, _⟩
      · exact hc
      · cases e
    subst hc
    refine (sort_nil w).mono ?_
    rintro e w' ⟨rfl, ho⟩
    exact ⟨rfl, h.only ho (by simp), ho⟩
  | cons x l =>
    obtain ⟨g, off, rfl⟩ := h.some (by simp)
    exact sort_any (x :: l) g off cap w hn hnd h
def Mem.ptrOf (m : Mem) (k : Int) : Value := ptrV ((m.at_ k).map LM.g)
theorem info49 : (Try.prog.info? 49).map (fun i => (i.zero, i.size, i.bytes)) = some (some (.pointer none), 1, 8) := by kernel_rfl
theorem info3 : (Try.prog.info? 3).map (fun i => (i.zero, i.size, i.bytes)) = some (some (.int .i64 0), 1, 8) := by kernel_rfl

set_option maxRecDepth 100000 in
set_option maxHeartbeats 4000000 in
theorem row_any (m : Mem) (S : Q) (link : Int) (w : World) (h : PQ w m S) (hok : S.Ok) :
    Calls Try.prog 20 #[.pointer (some ⟨m.p, 0, none⟩), .int .i64 link] w fun e w' => ∃ ao cap, e = .returned (.slice ao (S.row link).length cap) ∧ Sl w' 49 1 ao (S.row link).length cap ((S.row link).map m.ptrOf) ∧ Only [] w w' ∧ ∀ k, blk ao = some k → w.heap.size ≤ k := by
  obtain ⟨i3, hi3, hz3, hsz3, hby3⟩ := info_parts info3
  obtain ⟨i49, hi49, hz49, hsz49, hby49⟩ := info_parts info49
  have c6 := h.c6
  have hlk := h.lanes
  have HP := Lib.hid h
  have hpl : m.ptrs.length ≤ 8 := by have := congrArg List.length h.same; rw [List.length_map] at this; unfold Mem.ptrs; rw [List.length_map]; have := hok.lanes8; omega
  have hkn : (m.ptrs.map (·.1)).Nodup := h.lanes.nodup
  have HK := Lib.hid hkn
  clear h hkn
  go_enter Try.func20, Try.ntmps20
  go_wp2_with ((at_range; refine wpList_rangeL _ rfl _ 46 rfl 3 49 keyed Try.underlying3 Try.underlying46 ptrV m.bl m.ptrs rfl hlk ?_; intro w0 hr0 hg0 hs0))
  go_frame
  have O0 : Only [] w w0 := Only.of_grown hg0 (fun k hk => by cases hk)
  have hw0 : w.heap.size + 1 ≤ w0.heap.size := by omega
  clear hs0 hg0 c6 hlk
  go_loopw [5, 6] (fun a b wr => ∃ done todo aA cA aB cB, Ranging Try.prog 3 ptrV wr m.bl w.heap.size m.ptrs todo ∧ (done ++ todo).Perm m.ptrs ∧ a = .slice aA (S.ahead link (done.map (·.1))).length cA ∧ b = .slice aB (S.behind link (done.map (·.1))).length cB ∧ Sl wr 3 1 aA (S.ahead link (done.map (·.1))).length cA (ints (S.ahead link (done.map (·.1)))) ∧ Sl wr 3 1 aB (S.behind link (done.map (·.1))).length cB (ints (S.behind link (done.map (·.1)))) ∧ (S.ahead link (done.map (·.1)) = [] → aA = none) ∧ (S.behind link (done.map (·.1)) = [] → aB = none) ∧ (∀ k, blk aA = some k → w.heap.size < k ∧ blk aB ≠ some k) ∧ (∀ k, blk aB = some k → w.heap.size < k) ∧ Only [] w wr ∧ w.heap.size + 1 ≤ wr.heap.size) (fun _ _ wr => wr.rangeLeft m.bl w.heap.size)
  case atStart => exact ⟨[], m.ptrs, none, 0, none, 0, hr0, List.Perm.refl _, rfl, rfl, Sl.nil _ _ _, Sl.nil _ _ _, fun _ => rfl, fun _ => rfl, by simp [blk], by simp [blk], O0, hw0⟩
  case round =>
    clear hr0 O0 hw0
    obtain ⟨done, todo, aA, cA, aB, cB, hrg, hperm, rfl, rfl, hsA, hsB, hA0, hB0, hbA, hbB, hO, hw1⟩ := hrel
    have hdl : done.length + todo.length ≤ 8 := by have := hperm.length_eq; rw [List.length_append] at this; omega
    have hdn : (done.map (·.1)).Nodup := by
      have := (hperm.map (·.1)).nodup_iff.2 HK.out
      rw [List.map_append, List.nodup_append] at this
      exact this.1
    have hlA : (S.ahead link (done.map (·.1))).length ≤ done.length := by unfold Q.ahead; refine Nat.le_trans (List.length_filter_le _ _) (by simp)
    have hlB : (S.behind link (done.map (·.1))).length ≤ done.length := by unfold Q.behind; refine Nat.le_trans (List.length_filter_le _ _) (by simp)
    go_wp2_with ((at_next; refine wpList_nextL _ rfl _ rfl 3 keyed Try.underlying3 ptrV m.bl w.heap.size m.ptrs todo rfl hrg ?_ ?_))
    · rintro rfl
      rw [List.append_nil] at hperm
      have hkeys : ∀ x, x ∈ done.map (·.1) ↔ x ∈ S.lanes.map (·.1) := fun x => by
        rw [(hperm.map (·.1)).mem_iff, HP.out.same]
        unfold Mem.ptrs
        rw [List.map_map, List.map_map]
        rfl
      have HROW := Lib.hid (row_parts HP.out.lnodup link hkeys)
      have hnA : (S.ahead link (done.map (·.1))).Nodup := hdn.filter _
      have hnB : (S.behind link (done.map (·.1))).Nodup := hdn.filter _
      clear hperm hkeys hrg hdn
      have HLA := Lib.hid (sortL_length hnA)
      have HLB := Lib.hid (sortL_length hnB)
      generalize S.ahead link (done.map (·.1)) = LA at *
      generalize S.behind link (done.map (·.1)) = LB at *
      have hlA8 : LA.length ≤ 8 := by omega
      have hlB8 : LB.length ≤ 8 := by omega
      go_wp2_with fail
      refine (sort_sl LA aA cA wr hlA8 hnA hsA hA0).mono ?_
      rintro e w1 ⟨rfl, hsA1, oA⟩
      have hsB1 := hsB.only oA (fun k hk hj => (hbA k (blk_mem.1 hj)).2 hk)
      have hO1 : Only [] w w1 := hO.trans' oA (fun k hj => .inr (by have := (hbA k (blk_mem.1 hj)).1; omega))
      clear hsA hsB oA hO hA0 hnA
      go_wp2_with fail
      refine (sort_sl LB aB cB w1 hlB8 hnB hsB1 hB0).mono ?_
      rintro e w2 ⟨rfl, hsB2, oB⟩
      have hsA2 := hsA1.only oB (fun k hk hj => (hbA k hk).2 (blk_mem.1 hj))
      have hO2 : Only [] w w2 := hO1.trans' oB (fun k hj => .inr (by have := hbB k (blk_mem.1 hj); omega))
      clear hsA1 hsB1 oB hO1 hB0 hnB
      have en : LB.length + LA.length = (S.row link).length := by rw [← HROW.out, List.length_append, HLA.out, HLB.out]
      have HEN := Lib.hid en
      have hr8 : (S.row link).length ≤ 16 := by omega
      clear en
      go_wp2_with (at_builtin; refine wpList_append_src _ rfl (.tmp 43) (.tmp 44) 40 rfl 3 i3 (.int .i64 0) 1 8 Try.underlying40 hi3 hz3 hsz3 hby3 rfl aB _ cB _ rfl hsB2 aA _ cA _ rfl (hsA2.src (fun u hu => by obtain ⟨b, _, rfl⟩ := List.mem_map.1 hu; rfl)) (by unfold maxLen; omega) (by omega) ?_; intro ar cr w3 hsr hgr hbr; rw [HEN.out] at hsr; rw [HEN.out])
      have hsR : Sl w3 3 1 ar (S.row link).length cr (ints (S.row link)) := by
        have e : ints (S.row link) = ints (sortL LB) ++ ints (sortL LA) := by rw [← HROW.out]; simp [ints]
        rw [e]
        exact hsr
      have hO3 : Only [] w w3 := hO2.trans' (Only.of_grown (S := (blk aB).toList) hgr (fun j hj => blk_mem.2 hj)) (fun k hj => .inr (by have := hbB k (blk_mem.1 hj); omega))
      have hbr' : ∀ k, blk ar = some k → k < w3.heap.size := fun k hk => hsR.lt hk
      have hw3 : w.heap.size ≤ w3.heap.size := hO3.size
      have HFR : Hid (∀ k ∈ S.row link, ∃ x, m.at_ k = some x ∧ 0 ≤ k ∧ k ≤ 9223372036854775807) := fun k hk => by
        obtain ⟨L, hL, _⟩ := mem_free.1 (mem_row.1 hk)
        have h1 : S.lane k = some L := look_of_mem HP.out.lnodup hL
        have h2 := hok.keys _ hL
        rw [HP.out.lane] at h1
        cases hx : m.at_ k with
        | none => rw [hx] at h1; cases h1
        | some x => exact ⟨x, rfl, h2.1, h2.2⟩
      clear hsr hgr hbr hsA2 hsB2 hO2 hbA hbB HROW HLA HLB hlA hlB HEN hw1
      generalize hRR : S.row link = R at *
      have HRR := Lib.hid hRR
      clear hRR
      generalize hB3 : w3.heap.size = B3 at *
      have hB31 : B3 ≤ w3.heap.size := by rw [hB3]; exact Nat.le_refl _
      clear hB3
      go_loopw [9, 47] (fun o i wz => ∃ (j : Nat) (ao : Option Addr) (cap : Nat), i = .int .i64 j ∧ j ≤ R.length ∧ o = .slice ao j cap ∧ Sl wz 49 1 ao j cap ((R.take j).map m.ptrOf) ∧ (∀ k, blk ao = some k → B3 ≤ k) ∧ Only [] w wz ∧ Sl wz 3 1 ar R.length cr (ints R) ∧ B3 ≤ wz.heap.size) (fun _ i _ => R.length - (intOf i).toNat)
      case atStart => exact ⟨0, none, 0, rfl, by omega, rfl, by simpa using Sl.nil _ _ _, by simp [blk], hO3, hsR, hB31⟩
      case round =>
        clear hO3 hsR hB31
        obtain ⟨j, ao, cap, rfl, hj, rfl, hso, hbo, hO, hsR, hBw⟩ := hrel
        by_cases hlt : j < R.length
        · have d0 : decide (j < R.length) = true := by simpa using hlt
          obtain ⟨gr, or, rfl⟩ := hsR.some (by omega)
          have cr1 := hsR.cells _ _ (ints_get R j hlt)
          obtain ⟨x, hx, hx0, hx1⟩ := HFR.out _ (List.getElem_mem hlt)
          have hq := HP.out.quiet hO
          have l1 := hq.laneSome R[j] (by omega) hx1 hx
          have c6 := hq.c6
          have htk : (R.take (j + 1)).map m.ptrOf = (R.take j).map m.ptrOf ++ [.pointer (some ⟨x.g, 0, none⟩)] := by
            rw [List.take_succ_eq_append_getElem hlt, List.map_append]
            congr 1
            show [m.ptrOf R[j]] = _
            unfold Mem.ptrOf
            rw [hx]
            rfl
          have HTK := Lib.hid htk
          have hoa : Only [] wr (wr.alloc (.cells #[.pointer (some ⟨x.g, 0, none⟩)] 49)) := (Only.refl _ _).alloc _
          have hown := hso.only hoa (by simp)
          clear hq htk hx hso
          generalize R[j] = k at *
          go_wp2_with ((at_builtin; refine wpList_append_sl _ rfl (.tmp 51) (.tmp 58) 56 rfl 49 i49 (.pointer none) 1 8 Try.underlying56 hi49 hz49 hsz49 hby49 rfl ao _ cap _ rfl hown ⟨wr.heap.size, 0, none⟩ 1 1 [.pointer (some ⟨x.g, 0, none⟩)] rfl rfl (cells_one_new _ _ _) (by simp; rfl) (by unfold maxLen; omega) (by omega) ?_; intro ao' cap' w4 hs4 hg4 hb4))
          have O4 : Only (blk ao).toList wr w4 := (hoa.mono (by simp)).trans (Only.of_grown hg4 (fun i hi => blk_mem.2 hi))
          have hO4 : Only [] w w4 := hO.trans' O4 (fun i hi => .inr (by have := hbo i (blk_mem.1 hi); omega))
          have hsR4 := hsR.only O4 (fun i hi hj2 => by have := hbo i (blk_mem.1 hj2); have := hbr' i hi; omega)
          have hbo4 : ∀ i, blk ao' = some i → B3 ≤ i := fun i hi => by
            rcases hb4 with e | e
            · exact hbo i (e.symm.trans hi)
            · rw [e] at hi; simp at hi; omega
          have hBw4 : B3 ≤ w4.heap.size := Nat.le_trans hBw O4.size
          clear hoa hown hg4 hb4 O4 hO hsR hbo hBw l1 c6 cr1
          go_wp2_with fail
          go_roundw
          case rel => exact ⟨j + 1, ao', cap', by go_num, by omega, rfl, by rw [HTK.out]; exact hs4, hbo4, hO4, hsR4, hBw4⟩
          case measure => simp [intOf]; omega
        · have d0 : decide (j < R.length) = false := by simpa using hlt
          have hjR : j = R.length := by omega
          have hfin : Sl wr 49 1 ao R.length cap (R.map m.ptrOf) := by
            rw [hjR, List.take_length] at hso
            exact hso
          have HF := Lib.hid (And.intro hfin (And.intro hO (fun k hk => Nat.le_trans hw3 (hbo k hk))))
          have HJR := Lib.hid hjR
          clear hfin hO hbo hso hsR hjR
          go_wp2_with fail
          go_ret
          rw [HRR.out]
          refine ⟨ao, cap, ?_, HF.out⟩
          show Ending.returned (.slice ao j cap) = _
          rw [HJR.out]
    · intro q y w1 hmem hwf hrg1 hlt hg1 hs1 hen
      have hin : (q, y) ∈ m.ptrs := hrg.sub _ hmem
      have hperm1 := perm_step' hperm hrg.todo_nodup hmem
      obtain ⟨z, hzM, hze⟩ := List.mem_map.1 hin
      cases hze
      have hO1' : Only [w.heap.size] wr w1 := Only.of_grown (S := [w.heap.size]) hg1 (fun k hk => by cases hk; simp)
      have hO1 : Only [] w w1 := hO.trans' hO1' (fun x hx => by right; simp at hx; omega)
      have hsA1 := hsA.only hO1' (fun k hk => by have := (hbA k hk).1; simp; omega)
      have hsB1 := hsB.only hO1' (fun k hk => by have := hbB k hk; simp; omega)
      have hw2 : w.heap.size + 1 ≤ w1.heap.size := by omega
      have hzat := HP.out.at_mem hzM
      have hzA := (HP.out.quiet hO1).at_ z hzM
      have g1 := hzA.c1
      have hfree : S.isFree z.k = !z.L.drains := by unfold Q.isFree; rw [HP.out.lane, hzat]; rfl
      have HPm := Lib.hid hperm1
      have htl : done.length + 1 ≤ 8 := by have := List.length_pos_of_mem hmem; omega
      simp only [ptrV] at hen
      simp only [ptrV]
      clear hperm hperm1 hmem hin hrg hs1 hg1 hO hO1' hsA hsB hzat hzA hzM hdn hw1
      cases hdr : z.L.drains with
      | true =>
        rw [hdr] at g1 hfree
        have hfr : S.isFree z.k = false := hfree
        have heA : S.ahead link ((done ++ [(z.k, some z.g)]).map (·.1)) = S.ahead link (done.map (·.1)) := by rw [List.map_append]; unfold Q.ahead; rw [List.filter_append]; simp [hfr]
        have heB : S.behind link ((done ++ [(z.k, some z.g)]).map (·.1)) = S.behind link (done.map (·.1)) := by rw [List.map_append]; unfold Q.behind; rw [List.filter_append]; simp [hfr]
        have HEA := Lib.hid heA
        have HEB := Lib.hid heB
        clear heA heB hfr hfree hdr
        generalize S.ahead link (done.map (·.1)) = LA at *
        generalize S.behind link (done.map (·.1)) = LB at *
        go_wp2_with fail
        go_roundw
        case rel =>
          refine ⟨done ++ [(z.k, some z.g)], strike todo z.k, aA, cA, aB, cB, hrg1, HPm.out, ?_⟩
          rw [HEA.out, HEB.out]
          exact ⟨rfl, rfl, hsA1, hsB1, hA0, hB0, hbA, hbB, hO1, hw2⟩
        case measure => exact hlt
      | false =>
        rw [hdr] at g1 hfree
        have hfr : S.isFree z.k = true := hfree
        clear hfree hdr
        by_cases hlk : z.k < link
        · have hlk' : decide (z.k < link) = true := by simpa using hlk
          have hlk2 : decide (z.k < link) = true := hlk'
          clear hlk
          have heX : S.ahead link ((done ++ [(z.k, some z.g)]).map (·.1)) = S.ahead link (done.map (·.1)) ++ [z.k] := by rw [List.map_append]; unfold Q.ahead; rw [List.filter_append]; simp [hfr, hlk']
          have heY : S.behind link ((done ++ [(z.k, some z.g)]).map (·.1)) = S.behind link (done.map (·.1)) := by rw [List.map_append]; unfold Q.behind; rw [List.filter_append]; simp [hfr, hlk']
          have HEX := Lib.hid heX
          have HEY := Lib.hid heY
          have hoa : Only [] w1 (w1.alloc (.cells #[.int .i64 z.k] 3)) := (Only.refl _ _).alloc _
          have hown := hsA1.only hoa (by simp)
          clear heX heY hfr hlk'
          generalize S.ahead link (done.map (·.1)) = LX at *
          generalize S.behind link (done.map (·.1)) = LY at *
          go_wp2_with ((at_builtin; refine wpList_append_sl _ rfl (.tmp 35) (.tmp 37) 40 rfl 3 i3 (.int .i64 0) 1 8 Try.underlying40 hi3 hz3 hsz3 hby3 rfl aA _ cA _ rfl hown ⟨w1.heap.size, 0, none⟩ 1 1 [.int .i64 z.k] rfl rfl (cells_one_new _ _ _) (by simp; rfl) (by unfold maxLen; omega) (by omega) ?_; intro ao' cap' w2 hs2 hg2 hb2))
          have O2 : Only (blk aA).toList w1 w2 := (hoa.mono (by simp)).trans (Only.of_grown hg2 (fun j hj => blk_mem.2 hj))
          have hb2' : ∀ k, blk ao' = some k → blk aA = some k ∨ w1.heap.size ≤ k := fun k hk => by
            rcases hb2 with e | e
            · exact .inl (e.symm.trans hk)
            · right; rw [e] at hk; simp at hk; omega
          have hbl : m.bl < w.heap.size := HP.out.lanes.lt
          have hnb : some m.bl ≠ blk aA := fun e => by have := (hbA m.bl e.symm).1; omega
          have hnr : some w.heap.size ≠ blk aA := fun e => by have := (hbA _ e.symm).1; omega
          have hrg2 : Ranging Try.prog 3 ptrV w2 m.bl w.heap.size m.ptrs (strike todo z.k) := hrg1.kept (row := blk aA) ⟨O2.os, O2.tape, O2.output, O2.size, fun i hi hne => O2.block i hi (fun hj => hne (blk_mem.1 hj).symm)⟩ hnb hnr
          have hsB2 := hsB1.only O2 (fun k hk hj => (hbA k (blk_mem.1 hj)).2 hk)
          have hO2 : Only [] w w2 := hO1.trans' O2 (fun k hj => .inr (by have := (hbA k (blk_mem.1 hj)).1; omega))
          have hlt2 : w2.rangeLeft m.bl w.heap.size < wr.rangeLeft m.bl w.heap.size := by
            have e1 : w2.rangeLeft m.bl w.heap.size = w1.rangeLeft m.bl w.heap.size := by
              unfold World.rangeLeft
              rw [O2.block _ (by omega) (fun hj => hnb (blk_mem.1 hj).symm), O2.block _ (by omega) (fun hj => hnr (blk_mem.1 hj).symm)]
            omega
          have hw3 : w.heap.size + 1 ≤ w2.heap.size := Nat.le_trans hw2 O2.size
          have hsX : Sl w2 3 1 ao' (LX ++ [z.k]).length cap' (ints (LX ++ [z.k])) := by
            have e : ints (LX ++ [z.k]) = ints LX ++ [.int .i64 z.k] := by simp [ints]
            rw [e, List.length_append]
            exact hs2
          have hbX : ∀ k, blk ao' = some k → w.heap.size < k ∧ blk aB ≠ some k := fun k hk => by
            rcases hb2' k hk with e | e
            · exact hbA k e
            · exact ⟨by omega, fun e2 => by have := hsB1.lt e2; omega⟩
          clear hown hs2 hg2 hb2 hb2' hoa O2 hsA1 hsB1 hrg1 hnb hnr hO1 hw2 hlt
          go_wp2_with fail
          go_roundw
          case rel =>
            refine ⟨done ++ [(z.k, some z.g)], strike todo z.k, ao', cap', aB, cB, hrg2, HPm.out, ?_⟩
            rw [HEX.out, HEY.out]
            exact ⟨(by rw [List.length_append]; rfl), rfl, hsX, hsB2, fun e => by simp at e, hB0, fun k hk => hbX k hk, hbB, hO2, hw3⟩
          case measure => exact hlt2
        · have hlk' : decide (z.k < link) = false := by simpa using hlk
          have hlk2 : decide (z.k < link) = false := hlk'
          clear hlk
          have heX : S.behind link ((done ++ [(z.k, some z.g)]).map (·.1)) = S.behind link (done.map (·.1)) ++ [z.k] := by rw [List.map_append]; unfold Q.behind; rw [List.filter_append]; simp [hfr, hlk']
          have heY : S.ahead link ((done ++ [(z.k, some z.g)]).map (·.1)) = S.ahead link (done.map (·.1)) := by rw [List.map_append]; unfold Q.ahead; rw [List.filter_append]; simp [hfr, hlk']
          have HEX := Lib.hid heX
          have HEY := Lib.hid heY
          have hoa : Only [] w1 (w1.alloc (.cells #[.int .i64 z.k] 3)) := (Only.refl _ _).alloc _
          have hown := hsB1.only hoa (by simp)
          clear heX heY hfr hlk'
          generalize S.behind link (done.map (·.1)) = LX at *
          generalize S.ahead link (done.map (·.1)) = LY at *
          go_wp2_with ((at_builtin; refine wpList_append_sl _ rfl (.tmp 22) (.tmp 24) 40 rfl 3 i3 (.int .i64 0) 1 8 Try.underlying40 hi3 hz3 hsz3 hby3 rfl aB _ cB _ rfl hown ⟨w1.heap.size, 0, none⟩ 1 1 [.int .i64 z.k] rfl rfl (cells_one_new _ _ _) (by simp; rfl) (by unfold maxLen; omega) (by omega) ?_; intro ao' cap' w2 hs2 hg2 hb2))
          have O2 : Only (blk aB).toList w1 w2 := (hoa.mono (by simp)).trans (Only.of_grown hg2 (fun j hj => blk_mem.2 hj))
          have hb2' : ∀ k, blk ao' = some k → blk aB = some k ∨ w1.heap.size ≤ k := fun k hk => by
            rcases hb2 with e | e
            · exact .inl (e.symm.trans hk)
            · right; rw [e] at hk; simp at hk; omega
          have hbl : m.bl < w.heap.size := HP.out.lanes.lt
          have hnb : some m.bl ≠ blk aB := fun e => by have := hbB m.bl e.symm; omega
          have hnr : some w.heap.size ≠ blk aB := fun e => by have := hbB _ e.symm; omega
          have hrg2 : Ranging Try.prog 3 ptrV w2 m.bl w.heap.size m.ptrs (strike todo z.k) := hrg1.kept (row := blk aB) ⟨O2.os, O2.tape, O2.output, O2.size, fun i hi hne => O2.block i hi (fun hj => hne (blk_mem.1 hj).symm)⟩ hnb hnr
          have hsA2 := hsA1.only O2 (fun k hk hj => (hbA k hk).2 (blk_mem.1 hj))
          have hO2 : Only [] w w2 := hO1.trans' O2 (fun k hj => .inr (by have := hbB k (blk_mem.1 hj); omega))
          have hlt2 : w2.rangeLeft m.bl w.heap.size < wr.rangeLeft m.bl w.heap.size := by
            have e1 : w2.rangeLeft m.bl w.heap.size = w1.rangeLeft m.bl w.heap.size := by
              unfold World.rangeLeft
              rw [O2.block _ (by omega) (fun hj => hnb (blk_mem.1 hj).symm), O2.block _ (by omega) (fun hj => hnr (blk_mem.1 hj).symm)]
            omega
          have hw3 : w.heap.size + 1 ≤ w2.heap.size := Nat.le_trans hw2 O2.size
          have hsX : Sl w2 3 1 ao' (LX ++ [z.k]).length cap' (ints (LX ++ [z.k])) := by
            have e : ints (LX ++ [z.k]) = ints LX ++ [.int .i64 z.k] := by simp [ints]
            rw [e, List.length_append]
            exact hs2
          have hbX : ∀ k, blk ao' = some k → w.heap.size < k ∧ blk aA ≠ some k := fun k hk => by
            rcases hb2' k hk with e | e
            · exact ⟨hbB k e, fun e2 => (hbA k e2).2 e⟩
            · exact ⟨by omega, fun e2 => by have := hsA1.lt e2; omega⟩
          clear hown hs2 hg2 hb2 hb2' hoa O2 hsB1 hsA1 hrg1 hnb hnr hO1 hw2 hlt
          go_wp2_with fail
          go_roundw
          case rel =>
            refine ⟨done ++ [(z.k, some z.g)], strike todo z.k, aA, cA, ao', cap', hrg2, HPm.out, ?_⟩
            rw [HEY.out, HEX.out]
            exact ⟨rfl, (by rw [List.length_append]; rfl), hsA2, hsX, hA0, fun e => by simp at e, fun k hk => ⟨(hbA k hk).1, fun e => (hbX k e).2 hk⟩, fun k hk => (hbX k hk).1, hO2, hw3⟩
          case measure => exact hlt2
end Go.Proofs.Ytjcndeanojeffaa

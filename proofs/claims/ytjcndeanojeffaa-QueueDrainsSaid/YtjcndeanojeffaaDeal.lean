/- The contract of chapter 20's deal. -/
import Derived.Test.YtjcndeanojeffaaDeal0
namespace Go.Proofs.Ytjcndeanojeffaa
open Go.RowKit
open Plain

theorem info54 : (Try.prog.info? 54).map (fun i => (i.zero, i.size, i.bytes)) = some (some (.agg #[.bool false, .bool false, .int .i64 0, .string ⟨#[]⟩, .int .i64 0]), 5, 40) := by kernel_rfl
theorem five_cells (a b : Bool) (c : Int) (d : ByteArray) (e : Int) : ∀ u ∈ [Value.bool a, Value.bool b, Value.int .i64 c, Value.string d, Value.int .i64 e], u.oneCell' = true := by
  intro u hu
  simp at hu
  rcases hu with rfl | rfl | rfl | rfl | rfl <;> rfl

set_option maxRecDepth 100000 in
set_option maxHeartbeats 8000000 in
theorem deal_any (m : Mem) (S : Q) (link : Int) (s : ByteArray) (rest : List ByteArray) (L : Lane) (w : World) (h : PQ w m S) (hok : S.Ok) (hp : S.packs = s :: rest) (hl : S.lane link = some L) (hd : L.drains = false) :
    Calls Try.prog 19 #[.pointer (some ⟨m.p, 0, none⟩), .int .i64 link] w fun e w' => e = .returned (.tuple #[]) ∧ ∃ m', PQ w' m' (S.dealt link s rest) ∧ Step w w' m m' ∧ ∀ q, (m'.at_ q).map LM.g = (m.at_ q).map LM.g := by
  obtain ⟨hs1, hs2⟩ := hok.packs s (by rw [hp]; exact List.mem_cons_self)
  obtain ⟨ck1, ck2, ck3, cm1, cm2⟩ := cut_bd hok hs1 hs2
  have hq0 := hok.seq0
  have hq1 := hok.seq1
  have hrb := ring_bd S.short
  obtain ⟨hrb1, hrb2⟩ := hrb
  have hsz0 := hok.size0
  have hsz1 := hok.size1
  have hpl : S.packs.length = rest.length + 1 := by rw [hp]; rfl
  have HPL := Lib.hid hpl
  have hr64 : rest.length + 1 ≤ 64 := by have := hok.len64; omega
  obtain ⟨row', hrow⟩ := row_head hl hd
  have hrn : S.row link ≠ [] := by rw [hrow]; simp
  have HRN := Lib.hid hrn
  have hr16 : (S.row link).length ≤ 8 := row_length hok link
  have hr1 : 1 ≤ (S.row link).length := by rw [hrow]; simp
  have HOK := Lib.hid hok
  have HP := Lib.hid hp
  have hap : ∃ gp op, m.ap = some ⟨gp, op, none⟩ := h.packs.some (by rw [hpl]; omega)
  obtain ⟨gp, op, hap⟩ := hap
  have HAP := Lib.hid hap
  have C3 : Hid (∀ w', PQ w' m S → w'.cell? ⟨m.p, 3, none⟩ = some (.slice (some ⟨gp, op, none⟩) (rest.length + 1) m.cp)) := fun w' q => by have := q.c3; rw [hap, hpl] at this; exact this
  have C4 : Hid (∀ w', PQ w' m S → w'.cell? ⟨gp, op, none⟩ = some (.string s)) := fun w' q => by
    have h1 := q.packs
    rw [hap] at h1
    have h2 := h1.cells 0 (.string s) (by rw [hp]; rfl)
    exact h2
  have HROW := Lib.hid (row_any m S link w h hok)
  clear hrow hl hd hap hp hpl hrn
  go_enter Try.func19, Try.ntmps19
  go_wp2_with fail
  refine HROW.out.mono ?_
  rintro e w1 ⟨ar, cr, rfl, hsr, O1, hbr⟩
  have q1 := h.quiet O1
  have hbr2 : ∀ k, blk ar = some k → w.heap.size ≤ k ∧ k < w1.heap.size := fun k hk => ⟨hbr k hk, hsr.lt hk⟩
  have HQ0 := Lib.hid h
  clear HROW hbr h
  go_wp2_with fail
  -- region 1
  have c0 := q1.drew.c0
  have c3 := C3.out _ q1.drew
  have c4 := C4.out _ q1.drew
  refine wp_region_free 14 [] [14, 15] mixed (by kernel_rfl) (fun d v c a w h => by cases d <;> exact h) ?_
  simp only [Region.heads, List.range, List.range.loop, List.filter_cons, List.filter_nil, List.contains_nil, Bool.not_false, if_true, List.nil_append, List.filterMap_cons, List.filterMap_nil, List.getElem?_cons_succ, List.getElem?_cons_zero]
  iterate 14 ((with_reducible refine wpStill_op ?_ ?_ ?_); (focus kernel_rfl); (focus kernel_rfl); intro K hK; go_step; refine hK _ ?_; clear hK K)
  refine wpStill_nil ?_
  go_upto_region 2 with ((with_reducible apply wpList_max); (focus rfl); (focus rfl))
  have hks : max S.size (((s.size : Int) + 64 - 1) / 64) = S.cutSize s := by unfold Q.cutSize; rw [show (s.size : Int) + 64 - 1 = (s.size : Int) + 63 by omega]
  rw [hks]
  have HCUT := Lib.hid (many_cuts S s ck1)
  have HK2 := Lib.hid (And.intro ck1 (And.intro ck2 ck3))
  have q2 := q1.drew
  have O2 := O1.drew
  have hsr2 := hsr.only (Only.drew (Only.refl [] w1)) (by simp)
  have hbr3 : ∀ k, blk ar = some k → w.heap.size ≤ k ∧ k < w1.drew.heap.size := hbr2
  have HF0 := Lib.hid (show ∀ i, S.frag s i = fr s (fun _ => S.cutSize s) 1 S.seq (ring S.short) i from fun _ => rfl)
  clear hks c0 c3 c4 q1 O1 hsr hbr2
  generalize w1.drew = w2 at *
  have HMC := Lib.hid (show ∀ n, Cuts s.size (fun _ => S.cutSize s) 1 n → n = S.many s from fun n hn => hn.unique HCUT.out)
  have HNB : Hid (¬ Bad s.size (fun _ => S.cutSize s) 1 S.seq S.short) := fun hb => by
    have := (bad_one s.size (S.cutSize s) S.seq S.short).1 hb
    have := HK2.out
    omega
  clear HCUT
  generalize S.cutSize s = kk at *
  -- region 2
  refine wp_region_mix (fun w' => PQ w' m S) [(0, true), (6, true), (8, true), (12, true), (1, true), (2, true), (3, true), (4, true), (5, true), (9, true), (10, true), (11, true), (13, true), (14, true), (15, true), (7, false), (16, false), (17, false), (18, true), (19, true), (20, false), (21, false)] mixed (by kernel_rfl) (fun d v c a w h => by cases d <;> exact h) q2.drew ?_
  simp only [List.filterMap_cons, List.filterMap_nil, List.getElem?_cons_succ, List.getElem?_cons_zero, Option.map_some]
  have q3 := q2.drew
  have O3 := O2.drew
  have hsr3 := hsr2.only (Only.drew (Only.refl [] w2)) (by simp)
  have hbr4 : ∀ k, blk ar = some k → w.heap.size ≤ k ∧ k < w2.drew.heap.size := hbr3
  clear q2 O2 hsr2 hbr3
  generalize w2.drew = w3 at *
  iterate 4 ((with_reducible refine mix_move ?_ ?_); (focus rfl))
  iterate 5 ((with_reducible refine mix_free ?_ (v := ?_) (fun w' h' => ?_) ?_); (focus rfl); rotate_left; (focus (have c3 := C3.out _ h'; have c4 := C4.out _ h'; go_simp <;> with_reducible rfl)))
  iterate 3 ((with_reducible refine mix_free ?_ (v := ?_) (fun w' h' => ?_) ?_); (focus rfl); rotate_left; (focus (have c2 := PQ.c2 h'; go_simp <;> with_reducible rfl)))
  iterate 3 ((with_reducible refine mix_free ?_ (v := ?_) (fun w' h' => ?_) ?_); (focus rfl); rotate_left; (focus (have c1 := PQ.c1 h'; go_simp <;> with_reducible rfl)))
  have oa : Only [] w3 (w3.alloc (.cells #[.int .i64 kk] 3)) := (Only.refl _ _).alloc _
  have q4 := q3.quiet oa
  ((with_reducible refine mix_op ?_ ?_); (focus rfl); intro K hK; go_step; refine hK _ _ q4 ?_; clear hK K)
  with_reducible refine mix_op ?_ ?_
  · rfl
  intro K hK
  go_step
  have hArr : Arr (w3.alloc (.cells #[.int .i64 kk] 3)) (some ⟨w3.heap.size, 0, none⟩) 1 (fun _ => kk) := by
    refine ⟨by omega, fun i hi => ⟨w3.heap.size, 0, rfl, by simp, ?_, by show _ ≤ kk; omega, by show kk ≤ _; omega⟩⟩
    have := cell_of (heap_alloc_new' w3 (.cells #[.int .i64 kk] 3)) 0
    have e : i = 0 := by omega
    subst e
    exact this
  refine (cut_any s _ 1 1 (fun _ => kk) S.seq S.short _ (by omega) hArr).mono ?_
  rintro e w4 ⟨of, hbad | ⟨_, n, af, cf, hn64, hcuts, rfl, hfs, hfb⟩⟩
  · exact absurd hbad.1 HNB.out
  have hnm := HMC.out n hcuts
  have O4 : Only [] w3 w4 := oa.trans of
  have q5 := q3.quiet O4
  refine hK _ _ q5 ?_
  clear hK K
  iterate 1 ((with_reducible refine mix_op ?_ ?_); (focus rfl); intro K hK; go_step; refine hK _ _ q5 ?_; clear hK K)
  iterate 2 ((with_reducible refine mix_free ?_ (v := ?_) (fun w' h' => ?_) ?_); (focus rfl); rotate_left; (focus (go_simp <;> with_reducible rfl)))
  iterate 2 ((with_reducible refine mix_op ?_ ?_); (focus rfl); intro K hK; go_step; refine hK _ _ q5 ?_; clear hK K)
  refine mix_nil ?_
  subst hnm
  have O5 : Only [] w w4 := O3.trans O4
  have hsr5 := hsr3.only O4 (by simp)
  have hfb2 : ∀ k, blk af = some k → w.heap.size ≤ k ∧ k < w4.heap.size := fun k hk => ⟨by have h1 := hfb k hk; have h2 := O3.size; simp at h1; omega, hfs.lt hk⟩
  have hbr5 : ∀ k, blk ar = some k → w.heap.size ≤ k ∧ k < w4.heap.size := fun k hk => ⟨(hbr4 k hk).1, by have := (hbr4 k hk).2; have := O4.size; omega⟩
  have hfoot0 : ∀ x ∈ m.foot, blk ar ≠ some x ∧ blk af ≠ some x := fun x hx => by
    have := HQ0.out.lt x hx
    exact ⟨fun e => by have := (hbr5 x e).1; omega, fun e => by have := (hfb2 x e).1; omega⟩
  have st0 : Step w w4 m m := Step.quiet O5
  have hLJ : ∀ k ∈ m.foot, k < w.heap.size := HQ0.out.lt
  have hB0 : ∀ k, (blk ar = some k ∨ blk af = some k) → k < w4.heap.size := fun k hk => hk.elim (fun e => (hbr5 k e).2) (fun e => (hfb2 k e).2)
  clear hArr hcuts of oa O3 O4 O5 q3 q4 hsr3 hbr4 hbr5 hfb2 hfb
  obtain ⟨i54, hi54, hz54, hsz54, hby54⟩ := info_parts info54
  have HFS := Lib.hid (show ∀ i, i < S.many s → (frs s (fun _ => kk) 1 S.seq (ring S.short) (S.many s))[i]? = some (S.frag s i) from fun i hi => by rw [List.getElem?_eq_getElem (by rw [frs_length]; exact hi), frs_get, HF0.out])
  go_wp2_with fail
  go_loopw [51] (fun i wz => ∃ (j : Nat) (m' : Mem), i = .int .i64 j ∧ j ≤ S.many s ∧ PQ wz m' { S with lanes := giveN (S.row link) S.cut (S.frag s) S.lanes j } ∧ Step w wz m m' ∧ (∀ q, (m'.at_ q).map LM.g = (m.at_ q).map LM.g) ∧ Sl wz 49 1 ar (S.row link).length cr ((S.row link).map m.ptrOf) ∧ Sl wz 32 4 af (S.many s) cf (flatF (frs s (fun _ => kk) 1 S.seq (ring S.short) (S.many s))) ∧ (∀ x ∈ m'.foot, blk ar ≠ some x ∧ blk af ≠ some x)) (fun i _ => S.many s - (intOf i).toNat)
  case atStart => exact ⟨0, m, rfl, by omega, q5, st0, fun _ => rfl, hsr5, hfs, hfoot0⟩
  case round =>
    clear q5 st0 hsr5 hfs hfoot0
    obtain ⟨j, m', rfl, hj, q, st, hsame, hsr, hfs, hft⟩ := hrel
    by_cases hlt : j < S.many s
    · have d0 : decide (j < S.many s) = true := by simpa using hlt
      obtain ⟨gf, off, rfl⟩ := hfs.some (by omega)
      have hfl : j < (frs s (fun _ => kk) 1 S.seq (ring S.short) (S.many s)).length := by rw [frs_length]; exact hlt
      obtain ⟨f0, f1, f2, f3⟩ := flatF_get _ j hfl
      have hfe : (frs s (fun _ => kk) 1 S.seq (ring S.short) (S.many s))[j] = S.frag s j := by
        have := HFS.out j hlt
        rw [List.getElem?_eq_getElem hfl] at this
        exact Option.some.inj this
      rw [hfe] at f0 f1 f2 f3
      have f0 := hfs.cells _ _ f0
      have f1 := hfs.cells _ _ f1
      have f2 := hfs.cells _ _ f2
      have f3 := hfs.cells _ _ f3
      simp only [← Nat.add_assoc] at f1 f2 f3
      have hT := heap_alloc_new' wr (.cells #[.bool (S.frag s j).b, .bool (S.frag s j).e, .int .i64 (S.frag s j).q, .string (S.frag s j).d] 32)
      have OT : Only [] wr (wr.alloc (.cells #[.bool (S.frag s j).b, .bool (S.frag s j).e, .int .i64 (S.frag s j).q, .string (S.frag s j).d] 32)) := (Only.refl _ _).alloc _
      have hft6 := hsr.only OT (by simp)
      have hfs6 := hfs.only OT (by simp)
      have q6 := q.quiet OT
      have st6 := st.trans (Step.quiet OT)
      have hTn : wr.heap.size ∉ m'.foot := fun hm => by have := q.lt _ hm; omega
      have hsz6 : wr.heap.size < (wr.alloc (.cells #[.bool (S.frag s j).b, .bool (S.frag s j).e, .int .i64 (S.frag s j).q, .string (S.frag s j).d] 32)).heap.size := lt_of_block hT
      have HF := Lib.hid (show S.frag s j = S.frag s j from rfl)
      clear hfe hsr hfs q st
      go_upto_region 6 with fail
      clear f0 f1 f2 f3
      generalize hfj : S.frag s j = fj at *
      have HFJ := Lib.hid hfj
      clear hfj HF
      generalize World.alloc wr _ = w6 at *
      generalize wr.heap.size = T at *
      -- whose turn it is
      have hmod : j % (S.row link).length < (S.row link).length := Nat.mod_lt _ (by omega)
      have hkey : ∃ key, (S.row link).getD (j % (S.row link).length) 0 = key ∧ key ∈ S.row link ∧ (S.row link)[j % (S.row link).length]? = some key := by
        refine ⟨_, rfl, row_at_mem HRN.out j, ?_⟩
        rw [List.getD_eq_getElem?_getD, List.getElem?_eq_getElem hmod]
        rfl
      obtain ⟨key, hk1, hk2, hk3⟩ := hkey
      obtain ⟨LL, hLL, _⟩ := mem_free.1 (mem_row.1 hk2)
      have hx0 : ∃ x0, m.at_ key = some x0 := by
        have h1 : S.lane key = some LL := look_of_mem HQ0.out.lnodup hLL
        rw [HQ0.out.lane] at h1
        cases hx : m.at_ key with
        | none => rw [hx] at h1; cases h1
        | some x => exact ⟨x, rfl⟩
      obtain ⟨x0, hx0⟩ := hx0
      have hx : ∃ x, m'.at_ key = some x ∧ x.g = x0.g := by
        have := hsame key
        rw [hx0] at this
        cases hx : m'.at_ key with
        | none => rw [hx] at this; cases this
        | some x => rw [hx] at this; exact ⟨x, rfl, by simpa using this⟩
      obtain ⟨x, hx, hxg⟩ := hx
      have hpc : ((S.row link).map m.ptrOf)[j % (S.row link).length]? = some (.pointer (some ⟨x.g, 0, none⟩)) := by
        rw [List.getElem?_map, hk3]
        show some (m.ptrOf key) = _
        unfold Mem.ptrOf
        rw [hx0, hxg]
        rfl
      obtain ⟨gr, or, rfl⟩ := hft6.some (by omega)
      have cr1 := hft6.cells _ _ hpc
      have HTM := Lib.hid (show (j : Int).tmod ((S.row link).length : Int) = ((j % (S.row link).length : Nat) : Int) by rw [Int.tmod_eq_emod_of_nonneg (by omega)]; omega)
      have hrl0 : ¬ ((S.row link).length : Int) = 0 := by omega
      have HK1 := Lib.hid hk1
      have HX := Lib.hid hx
      clear hpc hk1 hk2 hk3 hLL hx0 hx hxg
      go_upto_region 7 with fail
      have q7 := q6.drew
      have st7 := st6.trans (Step.quiet (Only.drew (Only.refl [] w6)))
      have hT7 : w6.drew.heap[T]? = some (.cells #[.bool fj.b, .bool fj.e, .int .i64 fj.q, .string fj.d] 32) := hT
      have hr7 := hft6.only (Only.drew (Only.refl [] w6)) (by simp)
      have hf7 := hfs6.only (Only.drew (Only.refl [] w6)) (by simp)
      have hsz7 : T < w6.drew.heap.size := hsz6
      clear q6 st6 hT hft6 hfs6 hsz6 OT cr1
      have hin := (Mem.at_in HX.out).1
      have hat := q7.at_ x hin
      have hpm : m'.p = m.p := st7.p
      have hobj := q7.obj
      rw [hpm] at hobj
      have hgT : x.g ≠ T := fun e => hTn (m'.lm_in hin (show T ∈ x.foot by rw [← e]; exact List.mem_cons_self))
      have hgp : x.g ≠ m.p := fun e => (q7.sep3.2.2.2.2 x hin x.g List.mem_cons_self).1 (e.trans hpm.symm)
      have hwl : x.L.waits.length ≤ 64000064 := by
        have h1 : (x.k, x.L) ∈ giveN (S.row link) S.cut (S.frag s) S.lanes j := by
          have e : giveN (S.row link) S.cut (S.frag s) S.lanes j = m'.M.map fun x => (x.k, x.L) := q7.same
          rw [e]
          exact List.mem_map.2 ⟨x, hin, rfl⟩
        obtain ⟨p', a1, _, _, a4, _⟩ := give_mem h1
        have a5 := HOK.out.waits p' a1
        have a6 := HOK.out.cut1
        simp only at a4
        omega
      have HQ := Lib.hid (And.intro q7 (And.intro st7 (And.intro hr7 hf7)))
      have HNE := Lib.hid (And.intro hgT (And.intro hgp (And.intro hTn hin)))
      have HAT := Lib.hid hat
      have hSS : w6.drew.heap[x.g]? = some (.cells #[.slice x.ao x.L.waits.length x.cap, .bool x.L.drains] 52 (0, 0)) ∧ w6.drew.heap[m.p]? = some (.cells #[.int .i64 S.size, .bool S.short, .int .i64 S.seq, .slice m'.ap S.packs.length m'.cp, .int .i64 S.cut, .map (some m'.bo), .map (some m'.bl)] 48 (0, 0)) ∧ w6.drew.heap[T]? = some (.cells #[.bool fj.b, .bool fj.e, .int .i64 fj.q, .string fj.d] 32 (0, 0)) := ⟨hat.obj, hobj, hT7⟩
      refine wp_region_last (fun w' => w'.heap[x.g]? = some (.cells #[.slice x.ao x.L.waits.length x.cap, .bool x.L.drains] 52 (0, 0)) ∧ w'.heap[m.p]? = some (.cells #[.int .i64 S.size, .bool S.short, .int .i64 S.seq, .slice m'.ap S.packs.length m'.cp, .int .i64 S.cut, .map (some m'.bo), .map (some m'.bl)] 48 (0, 0)) ∧ w'.heap[T]? = some (.cells #[.bool fj.b, .bool fj.e, .int .i64 fj.q, .string fj.d] 32 (0, 0))) [(0, true), (1, true), (6, true), (2, true), (3, true), (4, true), (5, true), (7, false), (8, false), (9, false), (10, false), (11, false), (12, false), (13, false), (14, false)] 15 _ mixed (by kernel_rfl) rfl rfl (fun d v c a w h => by cases d <;> exact h) hSS ?_
      simp only [List.filterMap_cons, List.filterMap_nil, List.getElem?_cons_succ, List.getElem?_cons_zero, Option.map_some]
      clear q7 st7 hT7 hr7 hf7 hat hobj hgT hgp hTn hin hpm
      generalize w6.drew = w7 at *
      iterate 3 ((with_reducible refine mixR_move ?_ ?_); (focus rfl))
      iterate 2 ((with_reducible refine mixR_free ?_ (v := ?_) (fun w' h' => ?_) ?_); (focus rfl); rotate_left; (focus (go_simp <;> with_reducible rfl)))
      ((with_reducible refine mixR_free ?_ (v := ?_) (fun w' h' => ?_) ?_); (focus rfl); rotate_left; (focus (have g0 := cell_of h'.1 0; simp only [List.getElem?_toArray, List.getElem?_cons_zero] at g0; go_simp <;> with_reducible rfl)))
      ((with_reducible refine mixR_free ?_ (v := ?_) (fun w' h' => ?_) ?_); (focus rfl); rotate_left; (focus (have t0 := cell_of h'.2.2 0; have t1 := cell_of h'.2.2 1; have t2 := cell_of h'.2.2 2; have t3 := cell_of h'.2.2 3; simp only [List.getElem?_toArray, List.getElem?_cons_succ, List.getElem?_cons_zero] at t0 t1 t2 t3; go_simp <;> with_reducible rfl)))
      have p4 := cell_of hSS.2.1 4
      simp only [List.getElem?_toArray, List.getElem?_cons_succ, List.getElem?_cons_zero] at p4
      iterate 4 ((with_reducible refine mixR_op ?_ ?_); (focus rfl); intro K hK; go_step; refine hK _ _ hSS ?_; clear hK K)
      have oa : Only [] w7 (w7.alloc (.cells #[.bool fj.b, .bool fj.e, .int .i64 fj.q, .string fj.d, .int .i64 S.cut] 54)) := (Only.refl _ _).alloc _
      have hS8 := And.intro (oa.at hSS.1 (by simp)) (And.intro (oa.at hSS.2.1 (by simp)) (oa.at hSS.2.2 (by simp)))
      ((with_reducible refine mixR_op ?_ ?_); (focus rfl); intro K hK; go_step; refine hK _ _ hS8 ?_; clear hK K)
      with_reducible refine mixR_op ?_ ?_
      · rfl
      intro K hK
      refine wpO_append_sl _ (.tmp 67) (.tmp 74) 50 rfl 54 i54 _ 5 40 Try.underlying50 hi54 hz54 hsz54 hby54 rfl x.ao _ x.cap _ rfl (HAT.out.row.only oa (by simp)) ⟨_, 0, none⟩ 1 1 [.bool fj.b, .bool fj.e, .int .i64 fj.q, .string fj.d, .int .i64 S.cut] rfl rfl (cells_new _ _ _) (five_cells _ _ _ _ _) (by unfold maxLen; omega) (by omega) ?_
      intro ao' cap' w9 hs9 hg9 hb9
      have O9 : Only (blk x.ao).toList w7 w9 := (oa.mono (by simp)).trans (Only.of_grown hg9 (fun i hi => blk_mem.2 hi))
      have hne1 : x.g ∉ (blk x.ao).toList := fun hm => HAT.out.ne (blk_mem.1 hm)
      have hne2 : m.p ∉ (blk x.ao).toList := fun hm => by
        have h1 := (HQ.out.1.sep3.2.2.2.2 x HNE.out.2.2.2 m.p (List.mem_cons_of_mem _ hm)).1
        exact h1 HQ.out.2.1.p.symm
      have hne3 : T ∉ (blk x.ao).toList := fun hm => HNE.out.2.2.1 (m'.lm_in HNE.out.2.2.2 (show T ∈ x.foot from List.mem_cons_of_mem _ hm))
      have hS9 := And.intro (O9.at hSS.1 hne1) (And.intro (O9.at hSS.2.1 hne2) (O9.at hSS.2.2 hne3))
      refine hK _ _ hS9 ?_
      clear hK K
      iterate 2 ((with_reducible refine mixR_op ?_ ?_); (focus rfl); intro K hK; go_step; refine hK _ _ hS9 ?_; clear hK K)
      refine mixR_nil ?_
      intro _ K hK
      have g9 := cell_of hS9.1 0
      simp only [List.getElem?_toArray, List.getElem?_cons_zero] at g9
      have z9 := frozen_of hS9.1 0
      have OB : Only x.foot w7 (w9.setCell ⟨x.g, 0, none⟩ (.slice ao' (x.L.waits.length + 1) cap')) := (O9.mono (fun i hi => List.mem_cons_of_mem _ hi)).setCell (.inl (show x.g ∈ x.foot from List.mem_cons_self)) _
      have hbb : ∀ i, blk ao' = some i → blk x.ao = some i ∨ w7.heap.size ≤ i := fun i hi => by
        rcases hb9 with e | e
        · exact .inl (e.symm.trans hi)
        · right; rw [e] at hi; simp at hi; omega
      have hupd := HQ.out.1.updLane (w' := w9.setCell ⟨x.g, 0, none⟩ (.slice ao' (x.L.waits.length + 1) cap')) (x' := { x with ao := ao', cap := cap', L := { x.L with waits := x.L.waits ++ [(fj, S.cut)] } }) (g := fun L => { L with waits := L.waits ++ [(fj, S.cut)] }) HX.out (Mem.at_in HX.out).2 rfl ⟨by
          have := heap_setCell_same (o := 0) hS9.1 (.slice ao' (x.L.waits.length + 1) cap')
          rw [List.length_append]
          simpa using this, by
          have e : flatW (x.L.waits ++ [(fj, S.cut)]) = flatW x.L.waits ++ [.bool fj.b, .bool fj.e, .int .i64 fj.q, .string fj.d, .int .i64 S.cut] := by rw [flatW_snoc]; rfl
          rw [List.length_append, e]
          exact hs9.kept (fun i hi => heap_setCell_ne (fun e2 => by
            rcases hbb i hi with e3 | e3
            · exact hne1 (blk_mem.2 (by rw [e3, e2]))
            · have := lt_of_block hSS.1; omega) _)⟩ OB hbb rfl
      have hgive : giveN (S.row link) S.cut (S.frag s) S.lanes (j + 1) = updL (giveN (S.row link) S.cut (S.frag s) S.lanes j) key (fun L => { L with waits := L.waits ++ [(fj, S.cut)] }) := by
        show updL _ ((S.row link).getD (j % (S.row link).length) 0) (fun L => { L with waits := L.waits ++ [(S.frag s j, S.cut)] }) = _
        rw [HK1.out, HFJ.out]
      have hrel : PQ (w9.setCell ⟨x.g, 0, none⟩ (.slice ao' (x.L.waits.length + 1) cap')) (m'.upd key { x with ao := ao', cap := cap', L := { x.L with waits := x.L.waits ++ [(fj, S.cut)] } }) { S with lanes := giveN (S.row link) S.cut (S.frag s) S.lanes (j + 1) } ∧
          Step w (w9.setCell ⟨x.g, 0, none⟩ (.slice ao' (x.L.waits.length + 1) cap')) m (m'.upd key { x with ao := ao', cap := cap', L := { x.L with waits := x.L.waits ++ [(fj, S.cut)] } }) ∧
          (∀ q, ((m'.upd key { x with ao := ao', cap := cap', L := { x.L with waits := x.L.waits ++ [(fj, S.cut)] } }).at_ q).map LM.g = (m.at_ q).map LM.g) ∧
          Sl (w9.setCell ⟨x.g, 0, none⟩ (.slice ao' (x.L.waits.length + 1) cap')) 49 1 (some ⟨gr, or, none⟩) (S.row link).length cr ((S.row link).map m.ptrOf) ∧
          Sl (w9.setCell ⟨x.g, 0, none⟩ (.slice ao' (x.L.waits.length + 1) cap')) 32 4 (some ⟨gf, off, none⟩) (S.many s) cf (flatF (frs s (fun _ => kk) 1 S.seq (ring S.short) (S.many s))) ∧
          (∀ z ∈ (m'.upd key { x with ao := ao', cap := cap', L := { x.L with waits := x.L.waits ++ [(fj, S.cut)] } }).foot, blk (some (⟨gr, or, none⟩ : Addr)) ≠ some z ∧ blk (some (⟨gf, off, none⟩ : Addr)) ≠ some z) := by
        refine ⟨by rw [hgive]; exact hupd.1, HQ.out.2.1.trans hupd.2, fun q => ?_, HQ.out.2.2.1.only OB (fun i hi hm => (hft i (m'.lm_in HNE.out.2.2.2 hm)).1 hi), HQ.out.2.2.2.only OB (fun i hi hm => (hft i (m'.lm_in HNE.out.2.2.2 hm)).2 hi), fun z hz => ?_⟩
        · rw [Mem.upd_at (x' := { x with ao := ao', cap := cap', L := { x.L with waits := x.L.waits ++ [(fj, S.cut)] } }) HX.out (Mem.at_in HX.out).2]
          by_cases c : q = key
          · rw [if_pos c, c, ← hsame key, HX.out]; rfl
          · rw [if_neg c]; exact hsame q
        · rcases hupd.2.foot z hz with c | c
          · exact hft z c
          · exact ⟨fun e => by have := HQ.out.2.2.1.lt e; omega, fun e => by have := HQ.out.2.2.2.lt e; omega⟩
      have HREL := Lib.hid hrel
      clear hrel hupd hgive hs9 hg9 hb9 O9 hne1 hne2 hne3 OB hbb hsame hft oa hS8 p4
      go_step
      refine hK _ _ ?_
      clear hK K
      go_wp2_with fail
      go_roundw
      case rel => exact ⟨j + 1, _, by go_num, by omega, HREL.out⟩
      case measure => simp [intOf]; omega
    · have d0 : decide (j < S.many s) = false := by simpa using hlt
      have hjN : j = S.many s := by omega
      rw [hjN] at q
      have HQ := Lib.hid q
      have hst := Lib.hid (And.intro st hsame)
      clear hjN q hsr hfs hft hsame st
      go_upto_region 9 with fail
      have hpm : m'.p = m.p := hst.out.1.p
      have HPM := Lib.hid hpm
      have q1 := HQ.out.drew
      have st1 := hst.out.1.trans (Step.quiet (Only.drew (Only.refl [] wr)))
      have c4 : wr.drew.cell? ⟨m.p, 4, none⟩ = some (.int .i64 S.cut) := by rw [← hpm]; exact q1.c4
      have c5 : wr.drew.cell? ⟨m.p, 5, none⟩ = some (.map (some m'.bo)) := by rw [← hpm]; exact q1.c5
      have hcut0 := HOK.out.cut0
      have hcut1 := HOK.out.cut1
      have hopl : S.opn.length ≤ 64 := by have := HOK.out.len64; omega
      clear hpm HQ
      refine wp_region_free 10 [] [10] mixed (by kernel_rfl) (fun d v c a w h => by cases d <;> exact h) ?_
      simp only [Region.heads, List.range, List.range.loop, List.filter_cons, List.filter_nil, List.contains_nil, Bool.not_false, if_true, List.nil_append, List.filterMap_cons, List.filterMap_nil, List.getElem?_cons_succ, List.getElem?_cons_zero]
      iterate 10 ((with_reducible refine wpStill_op ?_ ?_ ?_); (focus kernel_rfl); (focus kernel_rfl); intro K hK; go_step; refine hK _ ?_; clear hK K)
      refine wpStill_nil ?_
      generalize wr.drew = w5 at *
      refine wpList_storeL _ rfl _ _ _ 45 rfl 3 3 keyed Try.underlying3 Try.underlying45 (Value.int .i64) m'.bo S.opn rfl q1.opn (by unfold maxLen; omega) S.cut (S.many s : Int) rfl rfl (wf_int (by omega) (by omega)) ?_
      intro w6 hm6 ht6
      obtain ⟨q2, st2⟩ := q1.setOpn hm6 ht6
      have st3 := st1.trans st2
      clear hm6 ht6 q1 st1 st2 c4 c5
      have c4 : w6.cell? ⟨m.p, 4, none⟩ = some (.int .i64 S.cut) := by rw [← HPM.out]; exact q2.c4
      have z4 : w6.frozen? ⟨m.p, 4, none⟩ = false := by rw [← HPM.out]; exact q2.fz 4
      have HQ2 := Lib.hid (And.intro q2 st3)
      clear q2 st3
      go_upto_region 11 with fail
      have h3 : PQ (w6.setCell ⟨m.p, 4, none⟩ (.int .i64 (S.cut + 1))) m' { S with lanes := giveN (S.row link) S.cut (S.frag s) S.lanes (S.many s), opn := putL S.opn S.cut (S.many s : Int), cut := S.cut + 1 } ∧ Step w (w6.setCell ⟨m.p, 4, none⟩ (.int .i64 (S.cut + 1))) m m' := by
        have h4 := HQ2.out.1.setP (i := 4) (v := .int .i64 (S.cut + 1)) (S' := { S with lanes := giveN (S.row link) S.cut (S.frag s) S.lanes (S.many s), opn := putL S.opn S.cut (S.many s : Int), cut := S.cut + 1 }) (by
          have := heap_setCell_same (o := 4) HQ2.out.1.obj (.int .i64 (S.cut + 1))
          simpa using this) rfl rfl rfl
        rw [HPM.out] at h4
        exact ⟨h4.1, HQ2.out.2.trans h4.2⟩
      obtain ⟨q3, st3⟩ := h3
      clear HQ2 c4 z4
      generalize w6.setCell _ _ = w7 at *
      have hap3 : ∃ gp op, m'.ap = some ⟨gp, op, none⟩ := q3.packs.some (show 1 ≤ S.packs.length by rw [HPL.out]; omega)
      obtain ⟨gp3, op3, hap3⟩ := hap3
      have c3 : w7.cell? ⟨m.p, 3, none⟩ = some (.slice (some ⟨gp3, op3, none⟩) (rest.length + 1) m'.cp) := by
        have := q3.c3
        rw [HPM.out, hap3] at this
        rw [this, ← HPL.out]
      have z3 : w7.frozen? ⟨m.p, 3, none⟩ = false := by rw [← HPM.out]; exact q3.fz 3
      have hcp : rest.length + 1 ≤ m'.cp := by have := q3.packs.2.1; rw [← HPL.out]; exact this
      have HQ3 := Lib.hid (And.intro q3 (And.intro st3 hap3))
      clear q3 st3 hap3
      go_upto_region 12 with fail
      have h8 : ∃ m8, m8.p = m.p ∧ (∀ q, m8.at_ q = m'.at_ q) ∧ PQ (w7.setCell ⟨m.p, 3, none⟩ (.slice (if m'.cp = 1 then some ⟨gp3, op3, none⟩ else some ⟨gp3, op3 + 1, none⟩) rest.length (m'.cp - 1))) m8 { S with lanes := giveN (S.row link) S.cut (S.frag s) S.lanes (S.many s), opn := putL S.opn S.cut (S.many s : Int), cut := S.cut + 1, packs := rest } ∧ Step w (w7.setCell ⟨m.p, 3, none⟩ (.slice (if m'.cp = 1 then some ⟨gp3, op3, none⟩ else some ⟨gp3, op3 + 1, none⟩) rest.length (m'.cp - 1))) m m8 := by
        have hsl : Sl w7 9 1 (some ⟨gp3, op3, none⟩) S.packs.length m'.cp (S.packs.map Value.string) := by
          have := HQ3.out.1.packs
          rw [HQ3.out.2.2] at this
          exact this
        have hsl' := hsl.lo 1 (show 1 ≤ S.packs.length by rw [HPL.out]; omega)
        have e1 : S.packs.length - 1 = rest.length := by rw [HPL.out]; omega
        have e2 : (S.packs.map Value.string).drop (1 * 1) = rest.map Value.string := by rw [HP.out]; rfl
        have hsl2 : Sl w7 9 1 (if m'.cp = 1 then some ⟨gp3, op3, none⟩ else some ⟨gp3, op3 + 1, none⟩) rest.length (m'.cp - 1) (rest.map Value.string) := by
          rw [← e1, ← e2]
          exact hsl'
        have h4 := HQ3.out.1.setPacks (ps := rest) rfl (Only.refl _ w7) hsl2 (fun j hj => by
          left
          rw [HQ3.out.2.2]
          split at hj <;> exact hj)
        have hw : w7.setCell ⟨m'.p, 3, none⟩ (.slice (if m'.cp = 1 then some ⟨gp3, op3, none⟩ else some ⟨gp3, op3 + 1, none⟩) rest.length (m'.cp - 1)) = w7.setCell ⟨m.p, 3, none⟩ (.slice (if m'.cp = 1 then some ⟨gp3, op3, none⟩ else some ⟨gp3, op3 + 1, none⟩) rest.length (m'.cp - 1)) := by rw [HPM.out]
        rw [hw] at h4
        exact ⟨{ m' with ap := if m'.cp = 1 then some ⟨gp3, op3, none⟩ else some ⟨gp3, op3 + 1, none⟩, cp := m'.cp - 1 }, HPM.out, fun _ => rfl, h4.1, HQ3.out.2.1.trans h4.2⟩
      obtain ⟨m8, hm8, hat8, q8, st8⟩ := h8
      have HM8 := Lib.hid (And.intro hm8 hat8)
      clear HQ3 c3 z3 hm8 hat8
      generalize w7.setCell _ _ = w8 at *
      have q9 := q8.drew
      have st9 := st8.trans (Step.quiet (Only.drew (Only.refl [] w8)))
      have c1 : w8.drew.cell? ⟨m.p, 1, none⟩ = some (.bool S.short) := by rw [← HM8.out.1]; exact q9.c1
      have c2 : w8.drew.cell? ⟨m.p, 2, none⟩ = some (.int .i64 S.seq) := by rw [← HM8.out.1]; exact q9.c2
      have z2 : w8.drew.frozen? ⟨m.p, 2, none⟩ = false := by rw [← HM8.out.1]; exact q9.fz 2
      have HQ9 := Lib.hid (And.intro q9 st9)
      have hrn0 : ¬ ring S.short = 0 := by omega
      clear q8 st8 q9 st9
      refine wp_region_free 14 [] [14, 15, 16] mixed (by kernel_rfl) (fun d v c a w h => by cases d <;> exact h) ?_
      simp only [Region.heads, List.range, List.range.loop, List.filter_cons, List.filter_nil, List.contains_nil, Bool.not_false, if_true, List.nil_append, List.filterMap_cons, List.filterMap_nil, List.getElem?_cons_succ, List.getElem?_cons_zero]
      iterate 12 ((with_reducible refine wpStill_op ?_ ?_ ?_); (focus kernel_rfl); (focus kernel_rfl); intro K hK; go_step; refine hK _ ?_; clear hK K)
      still_call ((ring22 S.short _).mono fun e w' h => ⟨h.1, h.2.symm⟩)
      ((with_reducible refine wpStill_op ?_ ?_ ?_); (focus kernel_rfl); (focus kernel_rfl); intro K hK; go_step; refine hK _ ?_; clear hK K)
      refine wpStill_nil ?_
      generalize w8.drew = w9 at *
      have hfin : ∃ m', PQ (w9.setCell ⟨m.p, 2, none⟩ (.int .i64 ((S.seq + (S.many s : Int)) % ring S.short))) m' (S.dealt link s rest) ∧ Step w (w9.setCell ⟨m.p, 2, none⟩ (.int .i64 ((S.seq + (S.many s : Int)) % ring S.short))) m m' ∧ ∀ q, (m'.at_ q).map LM.g = (m.at_ q).map LM.g := by
        have h4 := HQ9.out.1.setP (i := 2) (v := .int .i64 ((S.seq + (S.many s : Int)) % ring S.short)) (S' := S.dealt link s rest) (by
          have := heap_setCell_same (o := 2) HQ9.out.1.obj (.int .i64 ((S.seq + (S.many s : Int)) % ring S.short))
          simpa [Q.dealt] using this) rfl rfl rfl
        rw [HM8.out.1] at h4
        exact ⟨m8, h4.1, HQ9.out.2.trans h4.2, fun q => by rw [HM8.out.2]; exact hst.out.2 q⟩
      have HFIN := Lib.hid hfin
      clear hfin c1
      go_wp2_with fail
      all_goals (go_end0; exact ⟨rfl, HFIN.out⟩)
end Go.Proofs.Ytjcndeanojeffaa

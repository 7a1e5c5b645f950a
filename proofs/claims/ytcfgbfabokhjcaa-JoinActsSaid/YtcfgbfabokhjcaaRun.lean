/- The contract of chapter 19's run. -/
import Derived.Test.YtcfgbfabokhjcaaPlain2
namespace Go.Proofs.Ytcfgbfabokhjcaa
open Go.RowKit
open Plain

theorem first_any (p bl bh : Nat) (S : J) (f : Fr) (m : Int) (w : World) (h : PJ w p bl bh S) (m0 : -16777216 ≤ m) (m1 : m ≤ 16777216) :
    Calls Try.prog 43 #[.pointer (some ⟨p, 0, none⟩), .agg #[.bool f.b, .bool f.e, .int .i64 f.q, .string f.d], .int .i64 m] w fun e w' => e = .returned (firstV (S.first f m)) ∧ PJ w' p bl bh (S.first f m).1 ∧ Only [p, bh] w w' := by
  cases hb : f.b with
  | false => exact hb ▸ first_open p bl bh S f m w h hb
  | true => exact hb ▸ first_begin p bl bh S f m w h hb m0 m1

theorem info9 : (Try.prog.info? 9).map (fun i => (i.zero, i.size, i.bytes)) = some (some (.string ⟨#[]⟩), 1, 16) := by kernel_rfl

/-- the strings that were told so far. -/
def Told (p bl bh : Nat) (S : J) (B : Nat) (w0 w : World) (T : J) (ao : Option Addr) (cap : Nat) (outs : List ByteArray) : Prop :=
  Sl w 9 1 ao outs.length cap (outs.map Value.string) ∧ (∀ k, blk ao = some k → B ≤ k) ∧ PJ w p bl bh T ∧ Only [p, bh] w0 w ∧ S.run = (T.run.1, outs ++ T.run.2) ∧ outs.length + T.held.length ≤ S.held.length
theorem Told.step {p bl bh : Nat} {S : J} {B : Nat} {w0 w w' : World} {T T1 : J} {ao : Option Addr} {cap : Nat} {outs : List ByteArray} (h : Told p bl bh S B w0 w T ao cap outs) (hlt : p < B ∧ bl < B ∧ bh < B) (hp : PJ w' p bl bh T1) (ho : Only [p, bh] w w') (hr : T.run = T1.run) (hl : T1.held.length ≤ T.held.length) : Told p bl bh S B w0 w' T1 ao cap outs := by
  obtain ⟨h1, h2, h3, h4, h5, h6⟩ := h
  refine ⟨h1.only ho (fun k hk => ?_), h2, hp, h4.trans ho, by rw [← hr]; exact h5, by omega⟩
  have := h2 k hk
  simp; omega

theorem Told.tell {p bl bh : Nat} {S : J} {B : Nat} {w0 w w' w2 : World} {T T1 : J} {ao ao' : Option Addr} {cap cap' : Nat} {outs : List ByteArray} {s : ByteArray} {o : Obj} (h : Told p bl bh S B w0 w T ao cap outs) (hlt : p < B ∧ bl < B ∧ bh < B) (hp : PJ w' p bl bh T1) (ho : Only [p, bh] w w') (hr : T.run = (T1.run.1, s :: T1.run.2)) (hl : T1.held.length + 1 ≤ T.held.length)
    (hs : Sl w2 9 1 ao' (outs.length + 1) cap' (outs.map Value.string ++ [.string s])) (hg : (w'.alloc o).grownBy w2 (blk ao)) (hb : blk ao' = blk ao ∨ blk ao' = some (w'.alloc o).heap.size) (hB : B ≤ w0.heap.size := by exact Nat.le_refl _) (hB2 : w0.heap.size ≤ B := by exact Nat.le_refl _) : Told p bl bh S B w0 w2 T1 ao' cap' (outs ++ [s]) := by
  obtain ⟨h1, h2, h3, h4, h5, h6⟩ := h
  have O1 : Only [p, bh] w0 (w'.alloc o) := (h4.trans ho).alloc o
  have ho' : Only (match blk ao with | some k => [k] | none => []) (w'.alloc o) w2 := Only.of_grown hg (fun k hk => by rw [hk]; simp)
  have hnot : ∀ x, x < B → x ∉ (match blk ao with | some k => [k] | none => []) := by
    intro x hx hm
    cases hv : blk ao with
    | none => rw [hv] at hm; cases hm
    | some k => rw [hv] at hm; have := h2 k hv; simp at hm; omega
  refine ⟨by simpa using hs, fun k hk => ?_, (hp.alloc o).only ho' (hnot _ hlt.1) (hnot _ hlt.2.1) (hnot _ hlt.2.2), ?_, by rw [h5, hr]; simp, by simp; omega⟩
  · rcases hb with e | e
    · exact h2 k (by rw [← e]; exact hk)
    · rw [e] at hk
      cases hk
      have := O1.size
      omega
  · refine ⟨ho'.os.trans O1.os, ho'.tape.trans O1.tape, ho'.output.trans O1.output, Nat.le_trans O1.size ho'.size, fun i hi hne => ?_⟩
    exact (ho'.block i (Nat.lt_of_lt_of_le hi O1.size) (hnot i (by omega))).trans (O1.block i hi hne)

def RunEnd (p bl bh : Nat) (S : J) (w : World) (e : Ending) (w' : World) : Prop := ∃ ao cap, e = .returned (.slice ao S.run.2.length cap) ∧ Sl w' 9 1 ao S.run.2.length cap (S.run.2.map Value.string) ∧ (∀ k, blk ao = some k → w.heap.size ≤ k) ∧ PJ w' p bl bh S.run.1 ∧ Only [p, bh] w w' ∧ S.run.2.length ≤ S.held.length

set_option maxRecDepth 100000 in
set_option maxHeartbeats 4000000 in
theorem run_any (p bl bh : Nat) (S : J) (w : World) (h : PJ w p bl bh S) : Calls Try.prog 34 #[.pointer (some ⟨p, 0, none⟩)] w fun e w' => ∃ ao cap, e = .returned (.slice ao S.run.2.length cap) ∧ Sl w' 9 1 ao S.run.2.length cap (S.run.2.map Value.string) ∧ (∀ k, blk ao = some k → w.heap.size ≤ k) ∧ PJ w' p bl bh S.run.1 ∧ Only [p, bh] w w' ∧ S.run.2.length ≤ S.held.length := by
  have hlt := h.lt
  have hcnt := h.ok.count
  have T0 : Told p bl bh S w.heap.size w w S none 0 [] := ⟨Sl.nil _ _ _, fun k hk => (by cases hk), h, Only.refl _ _, by simp, by simp⟩
  have HF := Lib.hid (fun w' T ao cap outs (t : Told p bl bh S w.heap.size w w' T ao cap outs) (hs : T.step = none) (hl : (T.held.length : Int) ≤ T.most) => (show RunEnd p bl bh S w (.returned (.slice ao outs.length cap)) w' by
    obtain ⟨h1, h2, h3, h4, h5, h6⟩ := t
    rw [Plain.run_wait hs hl, List.append_nil] at h5
    unfold RunEnd
    rw [h5]
    exact ⟨ao, cap, rfl, h1, h2, h3, h4, by show outs.length ≤ S.held.length; omega⟩))
  have HN := Lib.hid hcnt
  clear h hcnt
  obtain ⟨i9, hi9, hz9, hsz9, hby9⟩ := info_parts info9
  have HI := Lib.hid (And.intro hi9 (And.intro hz9 (And.intro hsz9 hby9)))
  clear hi9 hz9 hsz9 hby9
  show Calls Try.prog 34 #[.pointer (some ⟨p, 0, none⟩)] w (RunEnd p bl bh S w)
  go_enter Try.func34, Try.ntmps34
  go_wp2_with fail
  go_loopg [3] S.mu (fun g o wr => ∃ ao cap outs T, o = .slice ao outs.length cap ∧ Told p bl bh S w.heap.size w wr T ao cap outs ∧ g = T.mu)
  case atStart => exact ⟨none, 0, [], S, rfl, T0, rfl⟩
  case round =>
    clear T0
    obtain ⟨ao, cap, outs, T, rfl, t, hgk⟩ := hrel
    have HGK := Lib.hid hgk
    clear hgk
    have hT := t.2.2.1
    have hok := hT.ok
    have hup := upto_bd hok
    have hr0 := hok.r0
    have hne := HN.out
    have HU := Lib.hid (fun w' (hp : PJ w' p bl bh T) => upto_any p bl bh T w' hp)
    have HLk := Lib.hid (fun w' (hp : PJ w' p bl bh T) => hp.heldAt T.next (by have := hok.next0; omega) (by have := hok.next0; have := hok.next1; omega))
    have HF1 := Lib.hid (fun w' f (hp : PJ w' p bl bh T) => first_any p bl bh T f T.upto w' hp (by omega) (by omega))
    have HOk := Lib.hid hok
    have HSt := Lib.hid (fun w1 w2 T1 (t : Told p bl bh S w.heap.size w w1 T ao cap outs) hp ho hr hl => t.step (w' := w2) (T1 := T1) hlt hp ho hr hl)
    obtain ⟨hu1, hu2⟩ := hup
    have hu3 : T.upto ≤ 16777216 := by omega
    clear hT hok hr0 hu2
    generalize hm : T.upto = m at *
    have HM := Lib.hid hm
    clear hm
    go_wp2_with fail
    refine (HU.out _ t.2.2.1).mono ?_
    rintro e w1 ⟨rfl, ho⟩
    have t1 := HSt.out _ _ T t (t.2.2.1.only ho (by simp) (by simp) (by simp)) (ho.mono (by simp)) rfl (Nat.le_refl _)
    clear t ho
    go_wp2_with fail
    refine wp_region_mix (fun w' => PJ w' p bl bh T) [(0, true), (4, true), (1, true), (2, true), (3, true), (5, true), (6, true), (7, true), (8, true), (9, true), (10, true), (11, true), (12, true), (13, false), (14, false), (15, false)] mixed (by kernel_rfl) (fun d v c a w h => by cases d <;> exact h) t1.2.2.1.drew ?_
    simp only [List.filterMap_cons, List.filterMap_nil, List.getElem?_cons_succ, List.getElem?_cons_zero, Option.map_some]
    have t2 := HSt.out _ _ T t1 t1.2.2.1.drew (Only.drew (Only.refl _ _)) rfl (Nat.le_refl _)
    clear t1
    generalize w1.drew = w2 at *
    iterate 2 (refine mix_move rfl ?_)
    iterate 3 (refine mix_free rfl (v := ?_) (fun w' h' => ?_) ?_; rotate_left; (focus (have c5 := h'.c5; go_simp <;> with_reducible rfl)))
    iterate 4 (refine mix_free rfl (v := ?_) (fun w' h' => ?_) ?_; rotate_left; (focus (have c1 := h'.c1; go_simp <;> with_reducible rfl)))
    (refine mix_free rfl (v := ?_) (fun w' h' => ?_) ?_; rotate_left; (focus (have lk := HLk.out _ h'; go_simp <;> with_reducible rfl)))
    refine mix_move rfl ?_
    iterate 2 (refine mix_free rfl (v := ?_) (fun w' h' => ?_) ?_; rotate_left; (focus (go_simp <;> with_reducible rfl)))
    with_reducible refine mix_op ?_ ?_
    · rfl
    intro K hK
    go_step
    refine hK _ _ (t2.2.2.1.alloc _) ?_
    clear hK K
    with_reducible refine mix_op ?_ ?_
    · rfl
    intro K hK
    go_step
    have t3 := HSt.out _ _ T t2 (t2.2.2.1.alloc (.cells #[.bool ((T.get T.next).getD zeroF).b, .bool ((T.get T.next).getD zeroF).e, .int .i64 ((T.get T.next).getD zeroF).q, .string ((T.get T.next).getD zeroF).d] 33)) (Only.alloc (Only.refl _ _) _) rfl (Nat.le_refl _)
    have hb := heap_alloc_new' w2 (.cells #[.bool ((T.get T.next).getD zeroF).b, .bool ((T.get T.next).getD zeroF).e, .int .i64 ((T.get T.next).getD zeroF).q, .string ((T.get T.next).getD zeroF).d] 33)
    refine hK _ _ t3.2.2.1 ?_
    clear hK K t2
    generalize w2.alloc _ = w3 at *
    generalize w2.heap.size = B at *
    with_reducible refine mix_op ?_ ?_
    · rfl
    intro K hK
    go_step
    refine hK _ _ t3.2.2.1 ?_
    clear hK K
    refine mix_nil ?_
    clear HU HLk
    obtain hg | ⟨f, hg⟩ : T.get T.next = none ∨ ∃ f, T.get T.next = some f := by cases T.get T.next <;> simp
    · simp only [hg, Option.isSome_none]
      by_cases h0 : 0 ≤ m
      · have d0 : decide (0 ≤ m) = true := by simpa using h0
        have hst : T.step = some ({ T with next := pos T.R T.next (min (m + 1) T.least) }, none) := by
          unfold J.step
          rw [hg]
          simp only
          rw [HM.out, if_pos h0]
        have hp := pos_bd (n := T.next) (q := min (m + 1) T.least) HOk.out.isRing
        have hlb := least_bd HOk.out
        have HC := Lib.hid (fun w' (hp : PJ w' p bl bh T) => pos_any p T.R T.next (min (m + 1) T.least) w' HOk.out.isRing HOk.out.next0 HOk.out.next1 (by omega) (by omega) hp.c0 hp.c1)
        have HLe := Lib.hid (fun w' (hp : PJ w' p bl bh T) => least_any p bl bh T w' hp)
        obtain ⟨hp1, hp2⟩ := hp
        have HMu := Lib.hid (step_down HOk.out hst).2.1
        have HRn := Lib.hid (show T.run = (J.run { T with next := pos T.R T.next (min (m + 1) T.least) }) by rw [Plain.run_step HOk.out hst]; simp)
        have hmin : (if T.least < m + 1 then T.least else m + 1) = min (m + 1) T.least := by split <;> omega
        have hwr : IntKind.i64.wrap (m + 1) = m + 1 := IntWalk.i64_in _ (by omega)
        obtain ⟨hl1, hl2⟩ := hlb
        generalize min (m + 1) T.least = mn at *
        generalize hq : pos T.R T.next mn = q at *
        have HQ := Lib.hid hq
        generalize T.least = le at *
        clear hst hg hq
        go_wp2_with fail
        refine wp_region_mix (fun _ => True) [(0, true), (1, true), (4, true), (6, true), (2, true), (3, true), (5, true), (7, false), (8, false), (9, false), (10, false), (11, false), (12, false), (13, false)] mixed (by kernel_rfl) (fun d v c a w h => by cases d <;> exact h) trivial ?_
        simp only [List.filterMap_cons, List.filterMap_nil, List.getElem?_cons_succ, List.getElem?_cons_zero, Option.map_some]
        have t4 := HSt.out _ _ T t3 t3.2.2.1.drew (Only.drew (Only.refl _ _)) rfl (Nat.le_refl _)
        clear t3
        generalize w3.drew = w4 at *
        iterate 4 (refine mix_move rfl ?_)
        iterate 3 (refine mix_free rfl (v := ?_) (fun w' h' => ?_) ?_; rotate_left; (focus (go_simp <;> with_reducible rfl)))
        with_reducible refine mix_op ?_ ?_
        · rfl
        intro K hK
        go_step
        refine (HLe.out _ t4.2.2.1).mono ?_
        rintro e w5 ⟨rfl, ho⟩
        refine hK _ _ trivial ?_
        clear hK K
        have t5 := HSt.out _ _ T t4 (t4.2.2.1.only ho (by simp) (by simp) (by simp)) (ho.mono (by simp)) rfl (Nat.le_refl _)
        clear t4 ho
        with_reducible refine mix_op ?_ ?_
        · rfl
        intro K hK
        go_step
        refine hK _ _ trivial ?_
        clear hK K
        with_reducible refine mix_op ?_ ?_
        · rfl
        intro K hK
        go_step
        refine (HC.out _ t5.2.2.1).mono ?_
        rintro e w6 ⟨rfl, rfl⟩
        refine hK _ _ trivial ?_
        clear hK K
        have t6 := HSt.out _ _ T t5 t5.2.2.1.drew (Only.drew (Only.refl _ _)) rfl (Nat.le_refl _)
        clear t5
        generalize w5.drew = w6 at *
        iterate 3 ((with_reducible refine mix_op ?_ ?_); (focus rfl); intro K hK; go_step; refine hK _ _ trivial ?_; clear hK K)
        have c1 := t6.2.2.1.c1
        have f1 := t6.2.2.1.fz 1
        with_reducible refine mix_op ?_ ?_
        · rfl
        intro K hK
        go_step
        refine hK _ _ trivial ?_
        clear hK K
        have t7 := HSt.out _ _ { T with next := q } t6 (t6.2.2.1.setNext q hp1 hp2) ((Only.refl _ _).setCell (.inl (by simp)) _) HRn.out (Nat.le_refl _)
        clear t6 c1 f1
        refine mix_nil ?_
        go_wp2_with fail
        go_roundg (J.mu { T with next := q })
        case measure => rw [HGK.out]; exact HMu.out
        case rel => exact ⟨ao, cap, outs, _, rfl, t7, rfl⟩
      · have d0 : decide (0 ≤ m) = false := by simpa using h0
        have hst : T.step = none := by
          unfold J.step
          rw [hg]
          simp only
          rw [HM.out, if_neg h0]
        clear hg hb
        have t4 := HSt.out _ _ T t3 t3.2.2.1.drew (Only.drew (Only.refl _ _)) rfl (Nat.le_refl _)
        have c3 := t3.2.2.1.c3
        have c5 := t3.2.2.1.c5
        have hl := t4.2.2.1.heldLen 3
        by_cases hlm : (T.held.length : Int) ≤ T.most
        · have dl : decide ((T.held.length : Int) ≤ T.most) = true := by simpa using hlm
          have HFin := Lib.hid (HF.out _ T _ _ _ t4 hst hlm)
          clear t4 t3 hst hlm
          go_wp2_with fail
          refine wp_region_reads mixed (by kernel_rfl) ?_
          repeat (refine wpStill_op rfl rfl (fun K hK => ?_); go_step; refine hK _ ?_; clear hK K)
          refine wpStill_nil ?_
          go_wp2_with fail
          go_ret
          exact HFin.out
        · have dl : decide ((T.held.length : Int) ≤ T.most) = false := by simpa using hlm
          have hne : T.held ≠ [] := fun e => hlm (by rw [e]; have := HOk.out.most0; simp; omega)
          have hlb := least_bd HOk.out
          have hlt' := least_lt HOk.out hne
          have hdn := over_down HOk.out (by omega)
          have HMu := Lib.hid hdn.2.1
          have HRn := Lib.hid (Plain.run_over HOk.out hst hlm)
          have hll := hdn.2.2
          have HLe := Lib.hid (fun w' (hp : PJ w' p bl bh T) => least_any p bl bh T w' hp)
          have HLt := Lib.hid (fun w' (hp : PJ w' p bl bh T) => let_any p bl bh T (T.least + 1) w' hp (by omega) (by omega))
          have hr0 := HOk.out.r0
          have hwr : IntKind.i64.wrap (T.least + 1) = T.least + 1 := IntWalk.i64_in _ (by omega)
          have ht4 := t4
          obtain ⟨hl1, hl2⟩ := hlb
          have hl3 : T.least ≤ 16777216 := by omega
          clear t4 t3 hst hlm hne hdn hlt' hr0
          go_wp2_with fail
          refine wp_region_reads mixed (by kernel_rfl) ?_
          repeat (refine wpStill_op rfl rfl (fun K hK => ?_); go_step; refine hK _ ?_; clear hK K)
          refine wpStill_nil ?_
          clear hl c3 c5
          go_wp2_with fail
          refine (HLe.out _ ht4.2.2.1).mono ?_
          rintro e w5 ⟨rfl, ho⟩
          have t5 := HSt.out _ _ T ht4 (ht4.2.2.1.only ho (by simp) (by simp) (by simp)) (ho.mono (by simp)) rfl (Nat.le_refl _)
          clear ht4 ho
          go_wp2_with fail
          refine (HLt.out _ t5.2.2.1).mono ?_
          rintro e w6 ⟨rfl, hp6, ho6⟩
          have t6 := HSt.out _ _ (T.letGo (T.least + 1)) t5 hp6 ho6 HRn.out (by omega)
          clear t5 hp6 ho6
          go_wp2_with fail
          go_roundg (J.mu (T.letGo (T.least + 1)))
          case measure => rw [HGK.out]; exact HMu.out
          case rel => exact ⟨ao, cap, outs, _, rfl, t6, rfl⟩
    · simp only [hg, Option.getD_some, Option.isSome_some] at hb ⊢
      have b0 := cell_of hb 0
      have b1 := cell_of hb 1
      have b2 := cell_of hb 2
      have b3 := cell_of hb 3
      simp only [List.getElem?_toArray, List.getElem?_cons_succ, List.getElem?_cons_zero] at b0 b1 b2 b3
      have hc0 := HF1.out w3 f t3.2.2.1
      rcases first_cases HOk.out hg m with ⟨k, k1, k2, e⟩ | ⟨k, s, k1, k2, e⟩ | e
      · have hst : T.step = some (T.letGo k, none) := by
          unfold J.step
          rw [hg]
          simp only
          rw [HM.out, e]
          rfl
        have hdn := step_down HOk.out hst
        have HMu := Lib.hid hdn.2.1
        have HRn := Lib.hid (show T.run = (T.letGo k).run by rw [Plain.run_step HOk.out hst]; simp)
        have hll : (T.letGo k).held.length ≤ T.held.length := by have := hdn.2.2.1; simpa using this
        rw [e] at hc0
        have hc : Calls Try.prog 43 #[.pointer (some ⟨p, 0, none⟩), .agg #[.bool f.b, .bool f.e, .int .i64 f.q, .string f.d], .int .i64 m] w3 fun e w' => e = .returned (.tuple #[.string ⟨#[]⟩, .bool false, .bool true]) ∧ PJ w' p bl bh (T.letGo k) ∧ Only [p, bh] w3 w' := hc0
        have HC := Lib.hid hc
        clear hc0 hc hst hdn e hg hb HF1
        go_wp2_with fail
        refine HC.out.mono ?_
        rintro e w4 ⟨rfl, hp, ho⟩
        have t4 := HSt.out _ _ (T.letGo k) t3 hp ho HRn.out hll
        clear t3 hp ho b0 b1 b2 b3 HC
        go_wp2_with fail
        go_roundg (J.mu (T.letGo k))
        case measure => rw [HGK.out]; exact HMu.out
        case rel => exact ⟨ao, cap, outs, _, rfl, t4, rfl⟩
      · have hst : T.step = some (T.tell k, some s) := by
          unfold J.step
          rw [hg]
          simp only
          rw [HM.out, e]
          rfl
        have hdn := step_down HOk.out hst
        have HMu := Lib.hid hdn.2.1
        have hrun : T.run = ((T.tell k).run.1, s :: (T.tell k).run.2) := by rw [Plain.run_step HOk.out hst]; rfl
        have hll : (T.tell k).held.length + 1 ≤ T.held.length := by have := hdn.2.2.1; simpa using this
        rw [e] at hc0
        have hc : Calls Try.prog 43 #[.pointer (some ⟨p, 0, none⟩), .agg #[.bool f.b, .bool f.e, .int .i64 f.q, .string f.d], .int .i64 m] w3 fun e w' => e = .returned (.tuple #[.string s, .bool true, .bool true]) ∧ PJ w' p bl bh (T.tell k) ∧ Only [p, bh] w3 w' := hc0
        have HC := Lib.hid hc
        have hol : outs.length ≤ 129 := by have := t3.2.2.2.2.2; have := HN.out; omega
        have HTl := Lib.hid (fun w4 w5 o ao' cap' hp ho hs hg hb => t3.tell (w' := w4) (w2 := w5) (T1 := T.tell k) (s := s) (ao' := ao') (cap' := cap') (o := o) hlt hp ho hrun hll hs hg hb)
        have hsl0 := t3.1
        have HSl := Lib.hid (fun w4 (ho : Only [p, bh] w3 w4) => hsl0.only ho (fun k hk => by have := t3.2.1 k hk; simp; omega))
        clear hc0 hc hst hdn e hg hb HF1 hrun hsl0 t3
        go_wp2_with fail
        refine HC.out.mono ?_
        rintro e w4 ⟨rfl, hp, ho⟩
        have hsl := HSl.out _ ho
        have HTl4 := Lib.hid (fun w5 o ao' cap' hs hg hb => HTl.out w4 w5 o ao' cap' hp ho hs hg hb)
        clear hp ho b0 b1 b2 b3 HC HTl HSl
        go_wp2_with (at_builtin; refine wpList_append_sl _ rfl _ _ 38 rfl 9 i9 _ 1 16 Try.underlying38 HI.out.1 HI.out.2.1 HI.out.2.2.1 HI.out.2.2.2 rfl ao outs.length cap _ rfl (hsl.only (Only.alloc (Only.refl [] _) _) (by simp)) ⟨_, 0, none⟩ 1 1 [.string s] rfl rfl (cells_new _ _ _) (by simp; rfl) (by unfold maxLen; omega) (by omega) ?_; intro ao' cap' w5 hs5 hg5 hb5; (have t5 := HTl4.out _ _ _ _ hs5 hg5 hb5); clear hs5 hg5 hb5)
        go_roundg (J.mu (T.tell k))
        case measure => rw [HGK.out]; exact HMu.out
        case rel => exact ⟨ao', cap', outs ++ [s], _, by simp, t5, rfl⟩
      · have hst : T.step = none := by
          unfold J.step
          rw [hg]
          simp only
          rw [HM.out, e]
          rfl
        rw [e] at hc0
        have hc : Calls Try.prog 43 #[.pointer (some ⟨p, 0, none⟩), .agg #[.bool f.b, .bool f.e, .int .i64 f.q, .string f.d], .int .i64 m] w3 fun e w' => e = .returned (.tuple #[.string ⟨#[]⟩, .bool false, .bool false]) ∧ PJ w' p bl bh T ∧ Only [p, bh] w3 w' := hc0
        have HC := Lib.hid hc
        have HSN := Lib.hid hst
        clear hc0 hc hst e hg hb HF1
        go_wp2_with fail
        refine HC.out.mono ?_
        rintro e w4 ⟨rfl, hp, ho⟩
        have t33 := HSt.out _ _ T t3 hp ho rfl (Nat.le_refl _)
        clear t3 hp ho b0 b1 b2 b3 HC
        have t3 := t33
        clear t33
        have hst := HSN.out
        have t4 := HSt.out _ _ T t3 t3.2.2.1.drew (Only.drew (Only.refl _ _)) rfl (Nat.le_refl _)
        have c3 := t3.2.2.1.c3
        have c5 := t3.2.2.1.c5
        have hl := t4.2.2.1.heldLen 3
        by_cases hlm : (T.held.length : Int) ≤ T.most
        · have dl : decide ((T.held.length : Int) ≤ T.most) = true := by simpa using hlm
          have HFin := Lib.hid (HF.out _ T _ _ _ t4 hst hlm)
          clear t4 t3 hst hlm
          go_wp2_with fail
          refine wp_region_reads mixed (by kernel_rfl) ?_
          repeat (refine wpStill_op rfl rfl (fun K hK => ?_); go_step; refine hK _ ?_; clear hK K)
          refine wpStill_nil ?_
          go_wp2_with fail
          go_ret
          exact HFin.out
        · have dl : decide ((T.held.length : Int) ≤ T.most) = false := by simpa using hlm
          have hne : T.held ≠ [] := fun e => hlm (by rw [e]; have := HOk.out.most0; simp; omega)
          have hlb := least_bd HOk.out
          have hlt' := least_lt HOk.out hne
          have hdn := over_down HOk.out (by omega)
          have HMu := Lib.hid hdn.2.1
          have HRn := Lib.hid (Plain.run_over HOk.out hst hlm)
          have hll := hdn.2.2
          have HLe := Lib.hid (fun w' (hp : PJ w' p bl bh T) => least_any p bl bh T w' hp)
          have HLt := Lib.hid (fun w' (hp : PJ w' p bl bh T) => let_any p bl bh T (T.least + 1) w' hp (by omega) (by omega))
          have hr0 := HOk.out.r0
          have hwr : IntKind.i64.wrap (T.least + 1) = T.least + 1 := IntWalk.i64_in _ (by omega)
          have ht4 := t4
          obtain ⟨hl1, hl2⟩ := hlb
          have hl3 : T.least ≤ 16777216 := by omega
          clear t4 t3 hst hlm hne hdn hlt' hr0
          go_wp2_with fail
          refine wp_region_reads mixed (by kernel_rfl) ?_
          repeat (refine wpStill_op rfl rfl (fun K hK => ?_); go_step; refine hK _ ?_; clear hK K)
          refine wpStill_nil ?_
          clear hl c3 c5
          go_wp2_with fail
          refine (HLe.out _ ht4.2.2.1).mono ?_
          rintro e w5 ⟨rfl, ho⟩
          have t5 := HSt.out _ _ T ht4 (ht4.2.2.1.only ho (by simp) (by simp) (by simp)) (ho.mono (by simp)) rfl (Nat.le_refl _)
          clear ht4 ho
          go_wp2_with fail
          refine (HLt.out _ t5.2.2.1).mono ?_
          rintro e w6 ⟨rfl, hp6, ho6⟩
          have t6 := HSt.out _ _ (T.letGo (T.least + 1)) t5 hp6 ho6 HRn.out (by omega)
          clear t5 hp6 ho6
          go_wp2_with fail
          go_roundg (J.mu (T.letGo (T.least + 1)))
          case measure => rw [HGK.out]; exact HMu.out
          case rel => exact ⟨ao, cap, outs, _, rfl, t6, rfl⟩
end Go.Proofs.Ytcfgbfabokhjcaa

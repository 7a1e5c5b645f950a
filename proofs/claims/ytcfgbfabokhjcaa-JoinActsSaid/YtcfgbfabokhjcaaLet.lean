/- The contract of chapter 19's let. -/
import Derived.Test.YtcfgbfabokhjcaaLoops
namespace Go.Proofs.Ytcfgbfabokhjcaa
open Go.RowKit
open Plain

/-- what is still in the map while the loop goes: what stays, and what has not come yet. -/
def stay (R n k : Int) (todo : List (Int × Fr)) (p : Int × Fr) : Bool := decide (k ≤ off R n p.1) || (look todo p.1).isSome
theorem stay_keep {R n k q : Int} {H todo : List (Int × Fr)} (hk : k ≤ off R n q) : H.filter (stay R n k (strike todo q)) = H.filter (stay R n k todo) := by
  refine List.filter_congr (fun p _ => ?_)
  unfold stay
  rw [look_strike]
  by_cases e : p.1 = q
  · rw [e]; simp [hk]
  · rw [if_neg e]
theorem stay_go {R n k q : Int} {H todo : List (Int × Fr)} (hk : ¬ k ≤ off R n q) : strike (H.filter (stay R n k todo)) q = H.filter (stay R n k (strike todo q)) := by
  unfold strike
  rw [List.filter_filter]
  refine List.filter_congr (fun p _ => ?_)
  unfold stay
  have := look_strike todo q p.1
  unfold strike at this
  rw [this]
  by_cases e : p.1 = q
  · rw [e]; simp [hk]
  · rw [if_neg e]; simp [e]
theorem stay_end (S : J) (k : Int) : (hm S.held).filter (stay S.R S.next k []) = hm (fromL S.R S.next k S.held) := by
  unfold hm fromL
  rw [List.filter_map]
  congr 1
  refine List.filter_congr (fun f _ => ?_)
  simp [stay, look_nil]
theorem stay_start (R n k : Int) (H : List (Int × Fr)) (hn : (H.map (·.1)).Nodup) : H.filter (stay R n k H) = H := by
  refine List.filter_eq_self.2 (fun p hp => ?_)
  unfold stay
  rw [look_of_mem hn hp]
  simp
theorem from_len (S : J) (k : Int) : (fromL S.R S.next k S.held).length ≤ S.held.length := List.length_filter_le _ _

theorem letGo_ok {S : J} (h : S.Ok) (k : Int) : (S.letGo k).Ok := by
  have hs : (fromL S.R S.next k S.held).Sublist S.held := List.filter_sublist
  have hl := from_len S k
  have hp := pos_bd (n := S.next) (q := k) h.isRing
  have h1 := h.lost1
  have h0 := h.lost0
  have hc := h.count
  exact ⟨h.ring, hp.1, hp.2, h.most0, h.most1, h.nodup.sublist (hs.map _), fun f hf => h.frag f (hs.subset hf), h.lnodup, h.link, h.links8, by show (fromL S.R S.next k S.held).length ≤ 129; omega, by show 0 ≤ S.lost + _; omega, by show S.lost + _ + ((fromL S.R S.next k S.held).length : Int) ≤ _; omega⟩

theorem PJ.loose {w wr : World} {p bl bh : Nat} {S : J} (h : PJ w p bl bh S) {L : Int} {n : Int} (hO : Only [p, bh] w wr) (held : List Fr) (ho : wr.heap[p]? = some (.cells #[.int .i64 S.R, .int .i64 n, .bool S.short, .int .i64 S.most, .map (some bl), .map (some bh), .int .i64 L] 72 (0, 0)))
    (hh : HasMap Try.prog 3 frV wr bh (hm held)) (hok : J.Ok { S with held := held, next := n, lost := L }) : PJ wr p bl bh { S with held := held, next := n, lost := L } :=
  ⟨ho, h.links.same (hO.block _ h.lt.2.1 (by simp; exact ⟨fun e => h.p_bl e.symm, h.ne⟩)), hh, h.ne, hok⟩

set_option maxHeartbeats 1500000 in
theorem let_any (p bl bh : Nat) (S : J) (k : Int) (w : World) (h : PJ w p bl bh S) (k0 : 0 ≤ k) (k1 : k ≤ S.R) : Calls Try.prog 46 #[.pointer (some ⟨p, 0, none⟩), .int .i64 k] w fun e w' => e = .returned (.tuple #[]) ∧ PJ w' p bl bh (S.letGo k) ∧ Only [p, bh] w w' := by
  have c5 := h.c5
  have hlk := h.held
  have hR := h.ok.isRing
  have hr0 := h.ok.r0
  obtain ⟨r1, r2⟩ := hr0
  have HL := Lib.hid h.ok.frag
  have HP := Lib.hid h
  have hl0 := h.ok.lost0
  have hl1 := h.ok.lost1
  have hlen : (hm S.held).length = S.held.length := by simp [hm]
  have HN := Lib.hid hlen
  have hcnt := h.ok.count
  have HE := Lib.hid (stay_end S k)
  have HS := Lib.hid (stay_start S.R S.next k (hm S.held) hlk.nodup)
  have hobj := h.obj
  have hpb := h.p_bh
  clear h hlen
  generalize hH : hm S.held = H at *
  have hHl : H.length ≤ 129 := by rw [← hH]; simp [hm]; exact hcnt
  go_enter Try.func46, Try.ntmps46
  go_wp2_with ((at_range; refine wpList_rangeL _ rfl _ 70 rfl 3 33 keyed Try.underlying3 Try.underlying70 frV bh H rfl hlk ?_; intro w0 hr0 hg0 hs0))
  go_frame
  have O0 : Only [p, bh] w w0 := Only.of_grown hg0 (fun k hk => by cases hk)
  have hobj0 := (Only.of_grown (S := []) hg0 (fun k hk => by cases hk)).at hobj (by simp)
  have hstart : Ranging Try.prog 3 frV w0 bh w.heap.size (H.filter (stay S.R S.next k H)) H := by rw [HS.out]; exact hr0
  have hb0 : w0.heap[p]? = some (.cells #[.int .i64 S.R, .int .i64 S.next, .bool S.short, .int .i64 S.most, .map (some bl), .map (some bh), .int .i64 (S.lost + ((H.length : Int) - ((H.filter (stay S.R S.next k H)).length : Int)))] 72 (0, 0)) := by
    rw [HS.out, Int.sub_self, Int.add_zero]; exact hobj0
  have hpw : p < w.heap.size := lt_of_block hobj
  have hbw : bh < w.heap.size := hlk.lt
  clear hs0 hg0 c5 hr0 hobj hobj0 hlk
  go_loopw [4] (fun _ wr => ∃ todo, Ranging Try.prog 3 frV wr bh w.heap.size (H.filter (stay S.R S.next k todo)) todo ∧ (∀ x ∈ todo, x ∈ H) ∧
      wr.heap[p]? = some (.cells #[.int .i64 S.R, .int .i64 S.next, .bool S.short, .int .i64 S.most, .map (some bl), .map (some bh), .int .i64 (S.lost + ((H.length : Int) - ((H.filter (stay S.R S.next k todo)).length : Int)))] 72 (0, 0)) ∧ Only [p, bh] w wr) (fun _ wr => wr.rangeLeft bh w.heap.size)
  case atStart => exact ⟨H, hstart, fun x hx => hx, hb0, O0⟩
  case round =>
    clear hstart O0 hb0
    obtain ⟨todo, hrg, hsub, hobj, hO⟩ := hrel
    go_wp2_with ((at_next; refine wpList_nextL _ rfl _ rfl 3 keyed Try.underlying3 frV bh w.heap.size _ todo rfl hrg ?_ ?_))
    · rintro rfl
      have hhm := hrg.has
      rw [HE.out] at hhm hobj
      have c0 := cell_of hobj 0
      have c1 := cell_of hobj 1
      simp only [List.getElem?_toArray, List.getElem?_cons_succ, List.getElem?_cons_zero] at c0 c1
      have fz := frozen_of hobj 1
      have hcall := pos_any p S.R S.next k wr hR HP.out.ok.next0 HP.out.ok.next1 k0 k1 c0 c1
      have hfin : PJ (wr.drew.setCell ⟨p, 1, none⟩ (.int .i64 (pos S.R S.next k))) p bl bh (S.letGo k) ∧ Only [p, bh] w (wr.drew.setCell ⟨p, 1, none⟩ (.int .i64 (pos S.R S.next k))) := by
        have hO2 : Only [p, bh] w (wr.drew.setCell ⟨p, 1, none⟩ (.int .i64 (pos S.R S.next k))) := hO.drew.setCell (.inl (by simp)) _
        refine ⟨?_, hO2⟩
        have hok := letGo_ok HP.out.ok k
        have hle := from_len S k
        have hHN := HN.out
        have el : S.lost + ((H.length : Int) - ((hm (fromL S.R S.next k S.held)).length : Int)) = (S.letGo k).lost := by
          show _ = S.lost + ((S.held.length - (fromL S.R S.next k S.held).length : Nat) : Int)
          have : (hm (fromL S.R S.next k S.held)).length = (fromL S.R S.next k S.held).length := by simp [hm]
          omega
        rw [el] at hobj
        refine HP.out.loose hO2 (fromL S.R S.next k S.held) ?_ ((hhm.drew).setCell (Ne.symm hpb) _) hok
        have := heap_setCell_same (o := 1) (w := wr.drew) hobj (.int .i64 (pos S.R S.next k))
        rw [this]
        simp
        rfl
      have HF := Lib.hid hfin
      clear hfin hhm hobj hO hsub hrg
      go_wp2_with (go_at_call 44; refine hcall.mono ?_; rintro e w' ⟨rfl, rfl⟩)
      go_end0
      exact ⟨rfl, HF.out⟩
    · intro q y w1 hmem hwf hrg1 hlt hg1 hs1 hen
      have hO1 : Only [] wr w1 ∨ True := .inr trivial
      have hpn : p ≠ w.heap.size := by omega
      have hbn : bh ≠ w.heap.size := by omega
      have hobj1 : w1.heap[p]? = _ := (hg1.block p (lt_of_block hobj) (fun e => hpn (by cases e; rfl))).trans hobj
      have hO1 : Only [p, bh] w w1 := hO.trans' (Only.of_grown (S := [w.heap.size]) hg1 (fun k hk => by cases hk; simp)) (fun x hx => by right; simp at hx; omega)
      have hin : (q, y) ∈ hm S.held := by rw [hH]; exact hsub _ hmem
      have hb : 0 ≤ q ∧ q < S.R := by
        obtain ⟨f, hf, e⟩ := List.mem_map.1 hin
        cases e
        exact ⟨(HL.out _ hf).1, (HL.out _ hf).2.1⟩
      obtain ⟨b3, b4⟩ := hb
      have hsub1 : ∀ x ∈ strike todo q, x ∈ H := fun x hx => hsub x (strike_mem.1 hx).1
      have c0 := cell_of hobj1 0
      have c1 := cell_of hobj1 1
      simp only [List.getElem?_toArray, List.getElem?_cons_succ, List.getElem?_cons_zero] at c0 c1
      have hcall := offset_any p S.R S.next q w1 hR HP.out.ok.next0 HP.out.ok.next1 b3 b4 c0 c1
      have hsb := off_bd (n := S.next) (q := q) hR
      obtain ⟨s1, s2⟩ := hsb
      have hlt2 : w1.drew.rangeLeft bh w.heap.size < wr.rangeLeft bh w.heap.size := hlt
      by_cases hk : k ≤ off S.R S.next q
      · have d : decide (off S.R S.next q < k) = false := by simp; omega
        have hrel1 : ∃ todo, Ranging Try.prog 3 frV w1.drew bh w.heap.size (H.filter (stay S.R S.next k todo)) todo ∧ (∀ x ∈ todo, x ∈ H) ∧
            w1.drew.heap[p]? = some (.cells #[.int .i64 S.R, .int .i64 S.next, .bool S.short, .int .i64 S.most, .map (some bl), .map (some bh), .int .i64 (S.lost + ((H.length : Int) - ((H.filter (stay S.R S.next k todo)).length : Int)))] 72 (0, 0)) ∧ Only [p, bh] w w1.drew :=
          ⟨strike todo q, by rw [stay_keep hk]; exact hrg1, hsub1, by rw [stay_keep hk]; exact hobj1, hO1.drew⟩
        have HRel := Lib.hid hrel1
        clear hrel1 hs1 hrg hO hg1 hwf hin hrg1 hlt hO1 hmem hH hobj hobj1 hsub hsub1
        go_wp2_with (go_at_call 33; refine hcall.mono ?_; rintro e w' ⟨rfl, rfl⟩)
        go_roundw
        case rel => exact HRel.out
        case measure => exact hlt2
      · have d : decide (off S.R S.next q < k) = true := by simp; omega
        have hst := stay_go (H := H) (todo := todo) hk
        have hlen1 := strike_length hrg.nodup q
        rw [hst] at hlen1
        have hlk1 : (look (H.filter (stay S.R S.next k todo)) q).isSome = true := by rw [look_of_mem hrg.nodup (hrg.sub _ hmem)]; rfl
        rw [hlk1] at hlen1
        simp only [if_true] at hlen1
        have hss : strike (strike todo q) q = strike todo q := strike_none (by rw [look_strike, if_pos rfl])
        have hsg := hst
        have hle : (H.filter (stay S.R S.next k todo)).length ≤ H.length := List.length_filter_le _ _
        have HS2 := Lib.hid hst
        have HSS := Lib.hid hss
        have hobj2 : w1.drew.heap[p]? = _ := hobj1
        have hO2 : Only [p, bh] w w1.drew := hO1.drew
        have hrg2 : Ranging Try.prog 3 frV w1.drew bh w.heap.size (H.filter (stay S.R S.next k todo)) (strike todo q) := hrg1
        have c5 := cell_of hobj2 5
        simp only [List.getElem?_toArray, List.getElem?_cons_succ, List.getElem?_cons_zero] at c5
        have HSub := Lib.hid hsub1
        clear hs1 hrg hO hg1 hin hrg1 hlt hO1 hmem hH hobj hobj1 hsub hst hss hsg hlk1 hsub1 c0 c1
        generalize hL1 : (H.filter (stay S.R S.next k todo)) = l1 at *
        have HLn := Lib.hid hlen1
        clear hL1 hlen1
        have hpos : 0 ≤ S.lost + ((H.length : Int) - (l1.length : Int)) ∧ S.lost + ((H.length : Int) - (l1.length : Int)) ≤ 1099511627776 + 129 := by omega
        obtain ⟨hpos1, hpos2⟩ := hpos
        generalize hLL : S.lost + ((H.length : Int) - (l1.length : Int)) = LL at *
        have HLL := Lib.hid hLL
        clear hLL hle
        go_wp2_with (first | (go_at_call 33; refine hcall.mono ?_; rintro e w' ⟨rfl, rfl⟩) | (at_delete; refine wpList_dropR _ rfl _ _ 70 3 rfl 33 keyed Try.underlying3 Try.underlying70 frV bh w.heap.size l1 (strike todo q) rfl hrg2 _ rfl hwf ?_; intro w2 hrg3 hle3 hturn; (have o2 := only_turned hturn); (have hobj3 := o2.at hobj2 (by simpa using hpb)); (have c6 := cell_of hobj3 6); (simp only [List.getElem?_toArray, List.getElem?_cons_succ, List.getElem?_cons_zero] at c6); (have f6 := frozen_of hobj3 6); (clear hrg2 hturn)))
        have hrel1 : ∃ todo, Ranging Try.prog 3 frV (w2.setCell ⟨p, 6, none⟩ (.int .i64 (LL + 1))) bh w.heap.size (H.filter (stay S.R S.next k todo)) todo ∧ (∀ x ∈ todo, x ∈ H) ∧
            (w2.setCell ⟨p, 6, none⟩ (.int .i64 (LL + 1))).heap[p]? = some (.cells #[.int .i64 S.R, .int .i64 S.next, .bool S.short, .int .i64 S.most, .map (some bl), .map (some bh), .int .i64 (S.lost + ((H.length : Int) - ((H.filter (stay S.R S.next k todo)).length : Int)))] 72 (0, 0)) ∧ Only [p, bh] w (w2.setCell ⟨p, 6, none⟩ (.int .i64 (LL + 1))) := by
          refine ⟨strike todo q, ?_, HSub.out, ?_, ((hO2.trans (o2.mono (by simp))).setCell (.inl (by simp)) _)⟩
          · rw [HSS.out, HS2.out] at hrg3
            refine hrg3.kept (row := some p) ⟨rfl, rfl, rfl, by simp [World.setCell], fun i hi hne => heap_setCell_ne (fun e => hne (by rw [e])) _⟩ (fun e => hpb (by cases e; rfl)) (fun e => by cases e; omega)
          · rw [heap_setCell_same hobj3]
            have e1 : S.lost + ((H.length : Int) - ((H.filter (stay S.R S.next k (strike todo q))).length : Int)) = LL + 1 := by
              have a := HLn.out
              have b := HLL.out
              omega
            rw [e1]
            simp
        have hm2 : (w2.setCell ⟨p, 6, none⟩ (.int .i64 (LL + 1))).rangeLeft bh w.heap.size < wr.rangeLeft bh w.heap.size := by
          have e1 : (w2.setCell ⟨p, 6, none⟩ (.int .i64 (LL + 1))).rangeLeft bh w.heap.size = w2.rangeLeft bh w.heap.size := by
            unfold World.rangeLeft
            rw [heap_setCell_ne (Ne.symm hpb), heap_setCell_ne (by omega)]
          omega
        have HRel := Lib.hid hrel1
        clear hrel1 o2 hobj3 hrg3 hO2 c6 f6 c5 hobj2
        go_roundw
        case rel => exact HRel.out
        case measure => exact hm2
end Go.Proofs.Ytcfgbfabokhjcaa

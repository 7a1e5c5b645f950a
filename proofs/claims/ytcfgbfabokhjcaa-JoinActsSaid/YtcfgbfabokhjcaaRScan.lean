/- Chapter 19: the contract of the document's own step: where the next one begins a packet. -/
import Derived.Test.YtcfgbfabokhjcaaRStep2
namespace Go.Proofs.Ytcfgbfabokhjcaa
namespace Plain
open Go
theorem some_lost {S : J} (h : S.Ok) {n : Nat} (hn : (n : Int) ≤ S.R) (hg : ∀ j, j < n → (S.get (pos S.R S.next j)).isSome = true) : J.Ok { S with held := fromL S.R S.next n S.held, lost := S.lost + n } := by
  have h1 := sub_ok h (fromL S.R S.next n S.held) List.filter_sublist S.next h.next0 h.next1
  have h2 := from_all h n hn hg
  have h3 := h.lost1
  have h4 := h.lost0
  exact ⟨h1.ring, h1.next0, h1.next1, h1.most0, h1.most1, h1.nodup, h1.frag, h1.lnodup, h1.link, h1.links8, h1.count, by show 0 ≤ S.lost + n; omega, by show S.lost + n + ((fromL S.R S.next n S.held).length : Int) ≤ _; omega⟩
end Plain
open Go.RowKit
open Plain

/-- what the scan keeps. -/
def Kr (m : RM) (S : J) (B : Nat) (v : Value) (d : List UInt8) (w w' : World) : Prop := RJ w' m S ∧ w'.ownsRow B 5 1 v d.length (cellsB d) ∧ Only [] w w'
theorem Kr.app {m : RM} {S : J} {v v' : Value} {d : List UInt8} {w w4 w5 : World} (h : RJ w m S) (K : Kr m S w.heap.size v d w w4) (s : ByteArray) (ho : w5.ownsRow w.heap.size 5 1 v' (d.length + s.size) (cellsB d ++ Lib.strCells s)) (g : w4.grownBy w5 v.ownBlock) :
    Kr m S w.heap.size v' (d ++ s.data.toList) w w5 := by
  have hge : ∀ k, v.ownBlock = some k → w.heap.size ≤ k := fun k hk => (K.2.1.lt k hk).1
  have ho' : Only v.ownBlock.toList w4 w5 := Only.of_grown g (fun k hk => by rw [hk]; simp)
  have hnot : ∀ x ∈ v.ownBlock.toList, w.heap.size ≤ x := fun x hx => hge x (by simpa using hx)
  refine ⟨K.1.only ho' (fun k hk hm => ?_), ?_, K.2.2.trans' ho' (fun x hx => .inr (hnot x hx))⟩
  · have := hnot k hm
    have := h.lt hk
    omega
  · rw [cellsB_app] at ho
    have e : (d ++ s.data.toList).length = d.length + s.size := by simp
    rw [e]
    exact ho
/-- bytes that were gathered, as a string, in a later world. -/
theorem conv_later {w w' : World} {B : Nat} {v : Value} {d : List UInt8} (h : w.ownsRow B 5 1 v d.length (cellsB d)) (hb : ∀ g, v.ownBlock = some g → w'.heap[g]? = w.heap[g]?) : (convert 86 9 v).run Try.prog w' = .ok (.string ⟨d.toArray⟩) w' := by
  rcases h.2 with ⟨rfl, h0⟩ | ⟨g, cap, cur, rfl, _, hg, _, _, _, ht⟩
  · have : d = [] := List.eq_nil_of_length_eq_zero h0
    subst this
    exact run_convert_bytes_nil w' 86 5 Try.underlying86 Try.underlying5 _ _ 9 Try.underlying9
  · refine run_convert_bytes_back w' 86 9 5 ⟨g, 0, none⟩ cap d Try.underlying86 Try.underlying5 Try.underlying9 (fun j hj => ?_)
    have h1 := h.cells (g := g) rfl j (.int .u8 (d[j].toNat : Int)) (by simp [cellsB, hj])
    have h2 := hb g rfl
    rw [Addr.add_lit] at h1 ⊢
    exact (World.cell?_of_block h2).trans h1
theorem ret_told {a : Option Addr} {n c : Nat} {b : Bool} : Ending.returned (.tuple #[.slice a n c, .bool b]) = .returned (.tuple #[.slice a n c, .bool b]) := rfl

set_option maxRecDepth 100000 in
set_option maxHeartbeats 8000000 in
theorem rstep_scan (m : RM) (S : J) (w : World) (h : RJ w m S) (k0 : Nat) (hk0 : k0 < S.held.length) (hat : S.at S.next = k0) (hq0 : S.held[k0].q = S.next) (hb0 : S.held[k0].b = true) : Calls Try.prog 39 #[.pointer (some ⟨m.r, 0, none⟩)] w (StepPost m S w) := by
  have hm := m_any m S w h
  have hgo := m_go h.ok
  obtain ⟨r1, r2⟩ := h.ok.r0
  have n0 := h.ok.next0
  have n1 := h.ok.next1
  have hcnt := h.ok.count
  have ls0 := h.ok.lost0
  have ls1 := h.ok.lost1
  obtain ⟨mb0, mb1⟩ := m_bd h.ok
  have HG0 := Lib.hid (get_of h.ok hk0 hq0)
  have HOk := Lib.hid h.ok
  obtain ⟨i0, hi, hz0, hz1, hz2⟩ := info_parts info5
  have HI := Lib.hid (And.intro hi (And.intro hz0 (And.intro hz1 hz2)))
  clear hi hz0 hz1 hz2
  obtain ⟨r, al, cl, ah, ch⟩ := m
  obtain ⟨gb, go, hah⟩ := h.held.some (by omega)
  have hah' : ah = some ⟨gb, go, none⟩ := hah
  subst hah'
  generalize S.mI = mi at *
  generalize S.mB = mb at *
  obtain ⟨N, hN⟩ : ∃ N, N = S.held.length := ⟨_, rfl⟩
  have HN := Lib.hid hN
  have hN129 : N ≤ 129 := by omega
  clear hN
  go_enter Try.func39, Try.ntmps39
  go_wp2_with fail
  refine hm.mono ?_
  rintro e w1 ⟨rfl, o1⟩
  have h1 := h.quiet o1
  have c0 : w1.cell? ⟨r, 0, none⟩ = some (.bool S.short) := h1.c0
  have c3 : w1.cell? ⟨r, 3, none⟩ = some (.slice (some ⟨gb, go, none⟩) S.held.length ch) := h1.c3
  have c4 : w1.cell? ⟨r, 4, none⟩ = some (.int .i64 S.next) := h1.c4
  have f0 := h1.held.cells _ _ (Cutp.flatF_get S.held k0 hk0).1
  rw [hb0] at f0
  have hr := ring37 HOk.out.ring w1
  have hac := at_any _ S S.next w1 h1
  rw [hat] at hac
  have K0 : Kr ⟨r, al, cl, some ⟨gb, go, none⟩, ch⟩ S w1.heap.size (.slice none 0 0) [] w1 w1 := ⟨h1, World.ownsRow_nil _ _ _ _, Only.refl _ _⟩
  have H1 := Lib.hid h1
  have O1 := Lib.hid o1
  have HB0 := Lib.hid hb0
  clear hm h h1 o1 hat hq0 hb0
  go_wp2_with (first | (go_at_call 37; refine hr.mono ?_; rintro e w' ⟨rfl, rfl⟩) | (go_at_call 38; refine hac.mono ?_; rintro e w' ⟨rfl, rfl⟩))
  clear c0 c3 c4 f0 hr hac
  go_loopw [9, 10] (fun v i wr => ∃ (v0 : Value) (k : Nat) (d : List UInt8), v = v0 ∧ i = .int .i64 k ∧ Kr ⟨r, al, cl, some ⟨gb, go, none⟩, ch⟩ S w1.heap.size v0 d w1 wr ∧ d.length ≤ 2048 * k ∧ k ≤ N ∧ (∀ j, j < k → (S.get (pos S.R S.next j)).isSome = true) ∧ S.scan (N + 1 - k) k d = S.scan (N + 1) 0 []) (fun _ i _ => N + 1 - (intOf i).toNat)
  case atStart => exact ⟨_, 0, [], rfl, rfl, K0, by simp, by omega, by (intro j hj; omega), rfl⟩
  case round =>
    clear K0
    obtain ⟨_, k, d, rfl, rfl, K1, hd, hk, hall, hscan⟩ := hrel
    have HA := Lib.hid hall
    have HSc := Lib.hid hscan
    clear hall hscan
    have kR : (k : Int) < S.R := by omega
    have dk : decide ((k : Int) < S.R) = true := by simpa using kR
    have c4 : wr.cell? ⟨r, 4, none⟩ = some (.int .i64 S.next) := K1.1.c4
    have hac := at_any _ S (pos S.R S.next k) wr K1.1
    have q0 : 0 ≤ (S.next + (k : Int)) % S.R := Int.emod_nonneg _ (by omega)
    have q1 : (S.next + (k : Int)) % S.R < S.R := Int.emod_lt_of_pos _ (by omega)
    have nR : ¬ S.R = 0 := by omega
    rcases at_cases HOk.out (pos S.R S.next k) with ⟨e1, hgn⟩ | ⟨kk, hkk, e1, hqk, hgk⟩
    · have hfin : S.scan (S.held.length + 1) 0 [] = ([], k, false) := by
        rw [← HN.out, ← HSc.out, show N + 1 - k = (N - k) + 1 by omega]
        exact scan_none hgn _ _
      rw [e1] at hac
      have HAt := Lib.hid (show Calls Try.prog 38 #[.pointer (some ⟨r, 0, none⟩), .int .i64 ((S.next + (k : Int)) % S.R)] wr fun e w' => e = .returned (.int .i64 (-1)) ∧ wr = w' from hac)
      by_cases hle : mb = true ∧ (k : Int) ≤ mi
      · obtain ⟨rfl, hle⟩ := hle
        have hup : (k : Int) ≤ S.upto := by
          rcases hgo with ⟨_, _, q⟩ | ⟨_, q, _⟩ | ⟨q, _⟩
          · omega
          · omega
          · cases q
        have HS := Lib.hid ((step_miss HG0.out HB0.out hfin hgn hup).trans (by rw [letGo_miss HOk.out kR HA.out hgn]))
        have HCl := Lib.hid (rclear_any _ S k wr.drew K1.1.drew (by omega) HA.out)
        have HOl := Lib.hid (some_lost HOk.out (by omega) HA.out)
        have HSt := Lib.hid (RStep.quiet (m := ⟨r, al, cl, some ⟨gb, go, none⟩, ch⟩) ((O1.out.trans K1.2.2).drew))
        have c5 : wr.drew.cell? ⟨r, 5, none⟩ = some (.int .i64 S.lost) := K1.1.drew.c5
        have dle : decide ((k : Int) ≤ mi) = true := by simpa using hle
        have HE := Lib.hid (show (S.next + (k : Int) + 1) % S.R = pos S.R S.next ((k : Int) + 1) by unfold pos; rw [Int.add_assoc])
        clear hac e1 hgn hfin hup hgo K1
        go_upto_region 35 with (go_at_call 38; refine HAt.out.mono ?_; rintro e w' ⟨rfl, rfl⟩)
        refine wp_region_last (fun w' => w'.cell? ⟨r, 5, none⟩ = some (.int .i64 S.lost)) [(0, true), (1, true), (5, true), (6, true), (2, true), (3, true), (4, true), (7, false), (8, false), (9, false), (10, false)] 11 _ mixed (by kernel_rfl) rfl rfl (fun d v c a w h => by cases d <;> exact h) c5 ?_
        simp only [List.filterMap_cons, List.filterMap_nil, List.getElem?_cons_succ, List.getElem?_cons_zero, Option.map_some]
        iterate 4 ((with_reducible refine mixR_move ?_ ?_); (focus rfl))
        iterate 3 ((with_reducible refine mixR_free ?_ (v := ?_) (fun w' h' => ?_) ?_); (focus rfl); rotate_left; (focus (go_simp <;> with_reducible rfl)))
        with_reducible refine mixR_op ?_ ?_
        · rfl
        intro K hK
        go_step
        refine HCl.out.mono ?_
        rintro e w2 ⟨⟨r', al2, cl2, ah2, ch2⟩, rfl, h2, s2⟩
        have er : r' = r := s2.r
        subst er
        have d5 : w2.cell? ⟨r', 5, none⟩ = some (.int .i64 S.lost) := h2.c5
        have z5 : w2.frozen? ⟨r', 5, none⟩ = false := h2.fz 5
        refine hK _ _ d5 ?_
        clear hK K HCl
        obtain ⟨h3, s3⟩ := h2.setLost (S.lost + k) HOl.out
        have z4 : (w2.setCell ⟨r', 5, none⟩ (.int .i64 (S.lost + k))).frozen? ⟨r', 4, none⟩ = false := h3.fz 4
        have d4 : (w2.setCell ⟨r', 5, none⟩ (.int .i64 (S.lost + k))).cell? ⟨r', 4, none⟩ = some (.int .i64 S.next) := h3.c4
        obtain ⟨h4, s4⟩ := h3.setNext (pos S.R S.next ((k : Int) + 1)) (pos_bd HOk.out.isRing).1 (pos_bd HOk.out.isRing).2
        have HF := Lib.hid (StepPost.on HS.out h4 (((HSt.out.trans s2).trans s3).trans s4))
        clear h2 s2 h3 s3 h4 s4 HSt HS c4 c5
        iterate 3 ((with_reducible refine mixR_op ?_ ?_); (focus rfl); intro K hK; go_step; refine hK _ _ d5 ?_; clear hK K)
        refine mixR_nil ?_
        intro _ K hK
        go_step
        refine hK _ _ ?_
        clear hK K d5 z5
        generalize w2.setCell ⟨r', 5, none⟩ (.int .i64 (S.lost + k)) = w3 at *
        rw [← HE.out] at HF
        go_wp2_with fail
        go_ret2
        exact HF.out
      · have hup : ¬ (k : Int) ≤ S.upto := by
          rcases hgo with ⟨rfl, _, q⟩ | ⟨rfl, _, q⟩ | ⟨_, q⟩
          · exact fun c => hle ⟨rfl, by omega⟩
          · omega
          · omega
        have HF := Lib.hid (StepPost.off (step_wait HG0.out HB0.out hfin hgn hup) K1.1 (O1.out.trans K1.2.2))
        have hcase : mb = false ∨ (mb = true ∧ decide ((k : Int) ≤ mi) = false) := by
          cases mb
          · exact .inl rfl
          · exact .inr ⟨rfl, by simpa using hle⟩
        clear hac e1 hgn hfin hup hgo K1 hle
        rcases hcase with rfl | ⟨rfl, dle⟩
        · go_wp2_with (go_at_call 38; refine HAt.out.mono ?_; rintro e w' ⟨rfl, rfl⟩)
          go_ret2
          exact HF.out
        · go_wp2_with (go_at_call 38; refine HAt.out.mono ?_; rintro e w' ⟨rfl, rfl⟩)
          go_ret2
          exact HF.out
    · rw [e1] at hac
      have HAt := Lib.hid (show Calls Try.prog 38 #[.pointer (some ⟨r, 0, none⟩), .int .i64 ((S.next + (k : Int)) % S.R)] wr fun e w' => e = .returned (.int .i64 kk) ∧ wr = w' from hac)
      have c3 : wr.cell? ⟨r, 3, none⟩ = some (.slice (some ⟨gb, go, none⟩) S.held.length ch) := K1.1.c3
      have HC := Lib.hid (show ∀ w', RJ w' ⟨r, al, cl, some ⟨gb, go, none⟩, ch⟩ S → w'.cell? ⟨r, 3, none⟩ = some (.slice (some ⟨gb, go, none⟩) S.held.length ch) ∧ w'.cell? ⟨gb, go + kk * 4, none⟩ = some (.bool S.held[kk].b) ∧ w'.cell? ⟨gb, go + kk * 4 + 1, none⟩ = some (.bool S.held[kk].e) ∧ w'.cell? ⟨gb, go + kk * 4 + 3, none⟩ = some (.string S.held[kk].d) from fun w' hw => by
        have f0 := hw.held.cells _ _ (Cutp.flatF_get S.held kk hkk).1
        have f1 := hw.held.cells _ _ (Cutp.flatF_get S.held kk hkk).2.1
        have f3 := hw.held.cells _ _ (Cutp.flatF_get S.held kk hkk).2.2.2
        simp only [← Nat.add_assoc] at f1 f3
        exact ⟨hw.c3, f0, f1, f3⟩)
      have hfd := (HOk.out.frag _ (List.getElem_mem hkk)).2.2
      generalize hff : S.held[kk] = f at *
      obtain ⟨fb, fe, fq, fd⟩ := f
      simp only at HC hfd hqk
      have kk0 : decide (0 ≤ (kk : Int)) = true := by simp
      by_cases hbeg : 0 < k ∧ fb = true
      · obtain ⟨hkp, rfl⟩ := hbeg
        have hfin : S.scan (S.held.length + 1) 0 [] = ([], k, false) := by
          rw [← HN.out, ← HSc.out, show N + 1 - k = (N - k) + 1 by omega]
          exact scan_begin hgk hkp rfl _ _
        have HS := Lib.hid ((step_begins HG0.out HB0.out hfin (by rw [hgk]; rfl)).trans (by rw [letGo_all HOk.out (by omega) HA.out]))
        have HCl := Lib.hid (rclear_any _ S k wr.drew K1.1.drew (by omega) HA.out)
        have HOl := Lib.hid (some_lost HOk.out (by omega) HA.out)
        have HSt := Lib.hid (RStep.quiet (m := ⟨r, al, cl, some ⟨gb, go, none⟩, ch⟩) ((O1.out.trans K1.2.2).drew))
        have c5 : wr.drew.cell? ⟨r, 5, none⟩ = some (.int .i64 S.lost) := K1.1.drew.c5
        have d0 : ((k : Int) == 0) = false := by simp; omega
        have d0' : ¬ (k : Int) = 0 := by omega
        obtain ⟨_, f0, _, _⟩ := HC.out wr K1.1
        have HE := Lib.hid (show (S.next + (k : Int)) % S.R = pos S.R S.next k from rfl)
        clear hac e1 hgk hfin hgo K1 hff hqk
        go_upto_region 31 with (go_at_call 38; refine HAt.out.mono ?_; rintro e w' ⟨rfl, rfl⟩)
        refine wp_region_last (fun w' => w'.cell? ⟨r, 5, none⟩ = some (.int .i64 S.lost)) [(0, true), (1, true), (5, true), (6, true), (2, true), (3, true), (4, true), (7, false), (8, false), (9, false), (10, false)] 11 _ mixed (by kernel_rfl) rfl rfl (fun d v c a w h => by cases d <;> exact h) c5 ?_
        simp only [List.filterMap_cons, List.filterMap_nil, List.getElem?_cons_succ, List.getElem?_cons_zero, Option.map_some]
        iterate 4 ((with_reducible refine mixR_move ?_ ?_); (focus rfl))
        iterate 3 ((with_reducible refine mixR_free ?_ (v := ?_) (fun w' h' => ?_) ?_); (focus rfl); rotate_left; (focus (go_simp <;> with_reducible rfl)))
        with_reducible refine mixR_op ?_ ?_
        · rfl
        intro K hK
        go_step
        refine HCl.out.mono ?_
        rintro e w2 ⟨⟨r', al2, cl2, ah2, ch2⟩, rfl, h2, s2⟩
        have er : r' = r := s2.r
        subst er
        have d5 : w2.cell? ⟨r', 5, none⟩ = some (.int .i64 S.lost) := h2.c5
        have z5 : w2.frozen? ⟨r', 5, none⟩ = false := h2.fz 5
        refine hK _ _ d5 ?_
        clear hK K HCl
        obtain ⟨h3, s3⟩ := h2.setLost (S.lost + k) HOl.out
        have z4 : (w2.setCell ⟨r', 5, none⟩ (.int .i64 (S.lost + k))).frozen? ⟨r', 4, none⟩ = false := h3.fz 4
        have d4 : (w2.setCell ⟨r', 5, none⟩ (.int .i64 (S.lost + k))).cell? ⟨r', 4, none⟩ = some (.int .i64 S.next) := h3.c4
        obtain ⟨h4, s4⟩ := h3.setNext (pos S.R S.next k) (pos_bd HOk.out.isRing).1 (pos_bd HOk.out.isRing).2
        have HF := Lib.hid (StepPost.on HS.out h4 (((HSt.out.trans s2).trans s3).trans s4))
        clear h2 s2 h3 s3 h4 s4 HSt HS c4 c5 f0 c3
        iterate 3 ((with_reducible refine mixR_op ?_ ?_); (focus rfl); intro K hK; go_step; refine hK _ _ d5 ?_; clear hK K)
        refine mixR_nil ?_
        intro _ K hK
        go_step
        refine hK _ _ ?_
        clear hK K d5 z5
        generalize w2.setCell ⟨r', 5, none⟩ (.int .i64 (S.lost + k)) = w3 at *
        rw [← HE.out] at HF
        go_wp2_with fail
        go_ret2
        exact HF.out
      · have hpick : (((k : Int) == 0) = true ∧ (k == 0) = true ∧ decide (k = 0) = true ∧ decide ((k : Int) = 0) = true) ∨ (¬ (k : Int) = 0 ∧ ((k : Int) == 0) = false ∧ fb = false) := by
          by_cases h0 : k = 0
          · exact .inl ⟨by simp; omega, by simp; omega, by simp; omega, by simp; omega⟩
          · right
            refine ⟨by omega, by simp; omega, ?_⟩
            cases fb
            · rfl
            · exact absurd ⟨by omega, rfl⟩ hbeg
        have hbeg2 : ¬ (0 < k ∧ fb = true) := hbeg
        have HBg := Lib.hid hbeg2
        have hown := K1.2.1
        have hbase := K1.2.2.size
        have hdl : d.length + fd.size ≤ 270000 := by omega
        obtain ⟨d', hd'⟩ : ∃ d', d' = d ++ fd.data.toList := ⟨_, rfl⟩
        have hdl' : d'.length ≤ 2048 * (k + 1) := by
          rw [hd', List.length_append]
          have : fd.data.toList.length = fd.size := by simp
          omega
        have KA := Lib.hid (fun v' w5 a b => hd' ▸ Kr.app (v' := v') (w5 := w5) H1.out K1 fd a b)
        have HD' := Lib.hid hd'
        obtain ⟨_, f0, f1, f3⟩ := HC.out wr K1.1
        have hall1 : ∀ j, j < k + 1 → (S.get (pos S.R S.next j)).isSome = true := fun j hj => by
          by_cases e : j = k
          · rw [e, hgk]; rfl
          · exact HA.out j (by omega)
        have HA1 := Lib.hid hall1
        have HGK := Lib.hid hgk
        clear hbeg hbeg2 hd' hac e1 hgk hff hqk hall1 hgo
        cases fe
        · have hk1 : k + 1 ≤ N := by
            rw [HN.out]
            exact run_len HOk.out (k + 1) HA1.out (by omega)
          have HR1 := Lib.hid (show S.scan (N + 1 - (k + 1)) (k + 1) d' = S.scan (N + 1) 0 [] by
            rw [← HSc.out, show N + 1 - k = (N - k) + 1 by omega, scan_on HGK.out HBg.out rfl, HD'.out, show N + 1 - (k + 1) = N - k by omega])
          clear K1
          rcases hpick with ⟨d0, d1, d2, d3⟩ | ⟨d0, d1, rfl⟩
          all_goals
            go_wp2_with (first | (go_at_call 38; refine HAt.out.mono ?_; rintro e w' ⟨rfl, rfl⟩) | (at_builtin; refine Lib.wpList_append_own_string _ rfl _ _ 86 9 rfl w1.heap.size 5 i0 Try.underlying86 Try.underlying9 HI.out.1 HI.out.2.1 HI.out.2.2.1 HI.out.2.2.2 _ d.length (cellsB d) rfl hown fd rfl (by unfold maxLen; omega) (by omega) hbase ?_; intro v' w5 hown' hgrow _; (have K5 := KA.out _ _ hown' hgrow); (obtain ⟨g3, g0, g1, gd⟩ := HC.out _ K5.1); (clear hown' hgrow)))
            go_roundw
            case rel => exact ⟨v', _, d', rfl, by go_num, K5, hdl', hk1, HA1.out, HR1.out⟩
            case measure => simp [intOf]; omega
        · have hfin : S.scan (S.held.length + 1) 0 [] = (d', k + 1, true) := by
            rw [← HN.out, ← HSc.out, show N + 1 - k = (N - k) + 1 by omega, scan_end HGK.out HBg.out rfl, HD'.out]
          have HS := Lib.hid (step_told HG0.out HB0.out hfin)
          have HCl := Lib.hid (show ∀ w5, RJ w5 ⟨r, al, cl, some ⟨gb, go, none⟩, ch⟩ S → Calls Try.prog 49 #[.pointer (some ⟨r, 0, none⟩), .int .i64 ((k : Int) + 1)] w5 fun e w' => ∃ m', e = .returned (.int .i64 ((k : Int) + 1)) ∧ RJ w' m' { S with held := fromL S.R S.next ((k + 1 : Nat) : Int) S.held } ∧ RStep w5 w' ⟨r, al, cl, some ⟨gb, go, none⟩, ch⟩ m' from fun w5 h5 => rclear_any _ S (k + 1) w5 h5 (by omega) HA1.out)
          have HE := Lib.hid (show (S.next + (k : Int) + 1) % S.R = pos S.R S.next ((k + 1 : Nat) : Int) by unfold pos; rw [Int.add_assoc]; rfl)
          clear hfin K1
          rcases hpick with ⟨d0, d1, d2, d3⟩ | ⟨d0, d1, rfl⟩
          all_goals
            go_wp2_with (first | (go_at_call 38; refine HAt.out.mono ?_; rintro e w' ⟨rfl, rfl⟩) | (at_builtin; refine Lib.wpList_append_own_string _ rfl _ _ 86 9 rfl w1.heap.size 5 i0 Try.underlying86 Try.underlying9 HI.out.1 HI.out.2.1 HI.out.2.2.1 HI.out.2.2.2 _ d.length (cellsB d) rfl hown fd rfl (by unfold maxLen; omega) (by omega) hbase ?_; intro v' w5 hown' hgrow _; (have K5 := KA.out _ _ hown' hgrow); (obtain ⟨g3, g0, g1, gd⟩ := HC.out _ K5.1); (clear hown' hgrow)))
            refine (HCl.out _ K5.1).mono ?_
            rintro e w6 ⟨⟨r', al2, cl2, ah2, ch2⟩, rfl, h6, s6⟩
            have er : r' = r := s6.r
            subst er
            have hnb : ∀ g, v'.ownBlock = some g → w1.heap.size ≤ g ∧ g < w5.heap.size := fun g hg => K5.2.1.lt g hg
            have d4 : w6.cell? ⟨r', 4, none⟩ = some (.int .i64 S.next) := h6.c4
            have z4 : w6.frozen? ⟨r', 4, none⟩ = false := h6.fz 4
            obtain ⟨h7, s7⟩ := h6.setNext ((S.next + (k : Int) + 1) % S.R) (Int.emod_nonneg _ (by omega)) (Int.emod_lt_of_pos _ (by show 0 < S.R; omega))
            have cv : (convert 86 9 v').run Try.prog (w6.setCell ⟨r', 4, none⟩ (.int .i64 ((S.next + (k : Int) + 1) % S.R))) = .ok (.string ⟨d'.toArray⟩) (w6.setCell ⟨r', 4, none⟩ (.int .i64 ((S.next + (k : Int) + 1) % S.R))) := conv_later K5.2.1 (fun g hg => by
              have hx := hnb g hg
              have hr' := H1.out.lt (RM.in_r _)
              simp only at hr'
              rw [heap_setCell_ne (by omega)]
              exact s6.only.block g hx.2 (fun hm => by have := H1.out.lt hm; omega))
            have hsl := sl_laid (w6.setCell ⟨r', 4, none⟩ (.int .i64 ((S.next + (k : Int) + 1) % S.R))) #[.string ⟨d'.toArray⟩] 9 1 1 rfl (by unfold maxLen; omega)
            have h8 := h7.alloc (.cells #[.string ⟨d'.toArray⟩] 9)
            have hT : ({ S with held := fromL S.R S.next ((k + 1 : Nat) : Int) S.held, next := (S.next + (k : Int) + 1) % S.R } : J) = S.tell ((k + 1 : Nat) : Int) := by unfold J.tell; rw [HE.out]
            have st := (((RStep.quiet (m := ⟨r', al, cl, some ⟨gb, go, none⟩, ch⟩) (O1.out.trans K5.2.2)).trans s6).trans s7).trans (RStep.quiet ((Only.refl [] _).alloc (.cells #[.string ⟨d'.toArray⟩] 9)))
            have hP : StepPost ⟨r', al, cl, some ⟨gb, go, none⟩, ch⟩ S w (.returned (.tuple #[.slice (some ⟨(w6.setCell ⟨r', 4, none⟩ (.int .i64 ((S.next + (k : Int) + 1) % S.R))).heap.size, 0, none⟩) 1 1, .bool true])) ((w6.setCell ⟨r', 4, none⟩ (.int .i64 ((S.next + (k : Int) + 1) % S.R))).alloc (.cells #[.string ⟨d'.toArray⟩] 9)) :=
              .inr ⟨_, _, _, _, 1, HS.out, rfl, hsl, hT ▸ h8, st⟩
            have HF := Lib.hid hP
            clear hP st hT h8 hsl h7 s7 h6 s6 hnb K5 g3 g0 g1 gd hown hbase f0 f1 f3 c3 c4
            go_upto_region 29 with fail
            generalize w6.setCell ⟨r', 4, none⟩ (.int .i64 ((S.next + (k : Int) + 1) % S.R)) = w7 at *
            clear d4 z4
            go_wp2_with fail
            go_ret2
            exact HF.out
end Go.Proofs.Ytcfgbfabokhjcaa

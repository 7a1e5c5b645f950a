/- Chapter 19: the contract of the document's own step: where the next one does not begin a packet. -/
import Derived.Test.YtcfgbfabokhjcaaRStep
namespace Go.Proofs.Ytcfgbfabokhjcaa
namespace Plain
open Go
theorem out_lost {S : J} (h : S.Ok) {k : Nat} (hk : k < S.held.length) : J.Ok { S.outAt k with lost := S.lost + 1 } := by
  have h1 := outAt_ok h k
  have h2 := out_len hk
  have h3 := h.lost1
  have h4 := h.lost0
  exact ⟨h1.ring, h1.next0, h1.next1, h1.most0, h1.most1, h1.nodup, h1.frag, h1.lnodup, h1.link, h1.links8, h1.count, by show 0 ≤ S.lost + 1; omega, by show S.lost + 1 + ((outL S.held k).length : Int) ≤ _; omega⟩
theorem open_eq {S : J} (h : S.Ok) {k : Nat} (hk : k < S.held.length) (hq : S.held[k].q = S.next) : S.letGo 1 = { S with held := outL S.held k, lost := S.lost + 1, next := pos S.R S.next 1 } := by
  have hg := get_of h hk hq
  have := letGo_all h (n := 1) (by have := h.r0; omega) (fun j hj => by
    have : j = 0 := by omega
    subst this
    rw [show pos S.R S.next ((0 : Nat) : Int) = S.next from pos_zero h.next0 h.next1, hg]
    rfl)
  rw [clear_one h hk hq]
  exact this
end Plain
open Go.RowKit
open Plain

set_option maxRecDepth 100000 in
set_option maxHeartbeats 4000000 in
theorem rstep_open (m : RM) (S : J) (w : World) (h : RJ w m S) (k : Nat) (hk : k < S.held.length) (hat : S.at S.next = k) (hq : S.held[k].q = S.next) (hb : S.held[k].b = false) : Calls Try.prog 39 #[.pointer (some ⟨m.r, 0, none⟩)] w (StepPost m S w) := by
  have hm := m_any m S w h
  obtain ⟨r1, r2⟩ := h.ok.r0
  have n0 := h.ok.next0
  have n1 := h.ok.next1
  have hcnt := h.ok.count
  have ls0 := h.ok.lost0
  have ls1 := h.ok.lost1
  have HS0 := Lib.hid (step_open (get_of h.ok hk hq) hb)
  have HEq := Lib.hid (open_eq h.ok hk hq)
  have HOl := Lib.hid (out_lost h.ok hk)
  have HOk := Lib.hid h.ok
  obtain ⟨r, al, cl, ah, ch⟩ := m
  obtain ⟨gb, go, hah⟩ := h.held.some (by omega)
  have hah' : ah = some ⟨gb, go, none⟩ := hah
  subst hah'
  generalize S.mI = mi at *
  generalize S.mB = mb at *
  go_enter Try.func39, Try.ntmps39
  go_wp2_with fail
  refine hm.mono ?_
  rintro e w1 ⟨rfl, o1⟩
  have h1 := h.quiet o1
  have c0 : w1.cell? ⟨r, 0, none⟩ = some (.bool S.short) := h1.c0
  have c3 : w1.cell? ⟨r, 3, none⟩ = some (.slice (some ⟨gb, go, none⟩) S.held.length ch) := h1.c3
  have c4 : w1.cell? ⟨r, 4, none⟩ = some (.int .i64 S.next) := h1.c4
  have f0 := h1.held.cells _ _ (Cutp.flatF_get S.held k hk).1
  rw [hb] at f0
  have hr := ring37 HOk.out.ring w1
  have hac := at_any _ S S.next w1 h1
  rw [hat] at hac
  have hlet := rlet_any _ S k w1 h1 hk
  have HLet := Lib.hid hlet
  have O1 := Lib.hid (RStep.quiet (m := ⟨r, al, cl, some ⟨gb, go, none⟩, ch⟩) o1)
  clear hm h h1 o1 hat hb hq hlet
  go_wp2_with (first | (go_at_call 37; refine hr.mono ?_; rintro e w' ⟨rfl, rfl⟩) | (go_at_call 38; refine hac.mono ?_; rintro e w' ⟨rfl, rfl⟩))
  refine HLet.out.mono ?_
  rintro e w2 ⟨⟨r', al2, cl2, ah2, ch2⟩, rfl, h2, s2⟩
  have er : r' = r := s2.r
  subst er
  have d5 : w2.cell? ⟨r', 5, none⟩ = some (.int .i64 S.lost) := h2.c5
  have z5 : w2.frozen? ⟨r', 5, none⟩ = false := h2.fz 5
  obtain ⟨h3, s3⟩ := h2.setLost (S.lost + 1) HOl.out
  have d4 : (w2.setCell ⟨r', 5, none⟩ (.int .i64 (S.lost + 1))).cell? ⟨r', 4, none⟩ = some (.int .i64 S.next) := h3.c4
  have z4 : (w2.setCell ⟨r', 5, none⟩ (.int .i64 (S.lost + 1))).frozen? ⟨r', 4, none⟩ = false := h3.fz 4
  obtain ⟨h4, s4⟩ := h3.setNext ((S.next + 1) % S.R) (Int.emod_nonneg _ (by omega)) (Int.emod_lt_of_pos _ (by show 0 < S.R; omega))
  have hs := HS0.out
  rw [HEq.out] at hs
  have HF := Lib.hid (StepPost.on hs h4 (((O1.out.trans s2).trans s3).trans s4))
  have nR : ¬ S.R = 0 := by omega
  clear h2 s2 h3 s3 h4 s4 hs c0 c3 c4 f0 hr hac HLet O1 HEq HS0
  go_upto_region 14 with fail
  go_upto_region 15 with fail
  generalize w2.setCell ⟨r', 5, none⟩ (.int .i64 (S.lost + 1)) = w3 at *
  clear d5 z5
  generalize S.R = R at *
  generalize S.next = n at *
  go_wp2_with fail
  go_ret2
  exact HF.out
end Go.Proofs.Ytcfgbfabokhjcaa

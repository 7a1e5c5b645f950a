/- Chapter 19: the contract of the document's own step: where the next one is not held, or does not begin a packet. -/
import Derived.Test.YtcfgbfabokhjcaaRClear
namespace Go.Proofs.Ytcfgbfabokhjcaa
namespace Plain
open Go
theorem step_stay {S : J} (hg : S.get S.next = none) (hu : ¬ 0 ≤ S.upto) : S.step = none := by
  unfold J.step
  rw [hg]
  exact if_neg hu
theorem step_jump {S : J} (hg : S.get S.next = none) (hu : 0 ≤ S.upto) : S.step = some ({ S with next := pos S.R S.next (min (S.upto + 1) S.least) }, none) := by
  unfold J.step
  rw [hg]
  exact if_pos hu
theorem step_of {S : J} {f : Fr} {r : J × Option ByteArray × Bool} (hg : S.get S.next = some f) (hf : S.first f S.upto = r) : S.step = if r.2.2 = true then some (r.1, r.2.1) else none := by
  unfold J.step
  rw [hg]
  simp only [hf]
theorem step_open {S : J} {f : Fr} (hg : S.get S.next = some f) (hb : f.b = false) : S.step = some (S.letGo 1, none) :=
  step_of (r := (S.letGo 1, none, true)) hg (by unfold J.first; exact if_pos hb)
theorem step_told {S : J} {f : Fr} {d : List UInt8} {n : Nat} (hg : S.get S.next = some f) (hb : f.b = true) (hr : S.scan (S.held.length + 1) 0 [] = (d, n, true)) : S.step = some (S.tell n, some ⟨d.toArray⟩) :=
  step_of (r := (S.tell n, some ⟨d.toArray⟩, true)) hg (by unfold J.first; rw [if_neg (by rw [hb]; decide), hr]; rfl)
theorem step_begins {S : J} {f : Fr} {d : List UInt8} {n : Nat} (hg : S.get S.next = some f) (hb : f.b = true) (hr : S.scan (S.held.length + 1) 0 [] = (d, n, false)) (h2 : (S.get (pos S.R S.next n)).isSome = true) : S.step = some (S.letGo n, none) :=
  step_of (r := (S.letGo n, none, true)) hg (by
    unfold J.first
    rw [if_neg (by rw [hb]; decide), hr]
    simp only [Bool.false_eq_true, if_false]
    rw [if_pos h2])
theorem step_miss {S : J} {f : Fr} {d : List UInt8} {n : Nat} (hg : S.get S.next = some f) (hb : f.b = true) (hr : S.scan (S.held.length + 1) 0 [] = (d, n, false)) (h2 : S.get (pos S.R S.next n) = none) (h3 : (n : Int) ≤ S.upto) : S.step = some (S.letGo ((n : Int) + 1), none) :=
  step_of (r := (S.letGo ((n : Int) + 1), none, true)) hg (by
    unfold J.first
    rw [if_neg (by rw [hb]; decide), hr]
    simp only [Bool.false_eq_true, if_false]
    rw [if_neg (by rw [h2]; decide), if_pos h3])
theorem step_wait {S : J} {f : Fr} {d : List UInt8} {n : Nat} (hg : S.get S.next = some f) (hb : f.b = true) (hr : S.scan (S.held.length + 1) 0 [] = (d, n, false)) (h2 : S.get (pos S.R S.next n) = none) (h3 : ¬ (n : Int) ≤ S.upto) : S.step = none :=
  step_of (r := (S, none, false)) hg (by
    unfold J.first
    rw [if_neg (by rw [hb]; decide), hr]
    simp only [Bool.false_eq_true, if_false]
    rw [if_neg (by rw [h2]; decide), if_neg h3])
end Plain
open Go.RowKit
open Plain

/-- min, as one operation. -/
theorem wpO_min {P : Program} {w : World} {a : Act} {K : Act → World → Prop} {Q : Exit → Act → World → Prop} {dst : Option Tmp} {ty : TypeId} {ps : String} {after : Array Edge} {gd : Option (Nat × Bool)} {x y : Operand} {ats : Array TypeId}
    {p q : Int} (hx : a.eval x = .int .i64 p) (hy : a.eval y = .int .i64 q) (h : K (a.put dst (.int .i64 (min p q))) w) :
    Oper.wp P { dst := dst, op := .call { callee := .builtin .min, args := #[x, y], argTypes := ats }, type := ty, pos := ps, after := after, guard := gd } a w K Q := by
  unfold Oper.wp execOp
  have e : (if q < p then q else p) = min p q := by split <;> omega
  simp only [resolve, invoke, builtin, Sem.run_bind, Sem.run_pure, Result.andThen_ok, List.map_toArray, List.map_cons, List.map_nil, hx, hy, Builtin.min_, Builtin.min2, List.foldlM_cons, List.foldlM_nil, e]
  exact h
/-- what step gives. -/
def StepPost (m : RM) (S : J) (w : World) (e : Ending) (w' : World) : Prop :=
  (S.step = none ∧ e = .returned (.tuple #[.slice none 0 0, .bool false]) ∧ RJ w' m S ∧ Only [] w w') ∨
  ∃ T o m' ao cap, S.step = some (T, o) ∧ e = .returned (.tuple #[.slice ao o.toList.length cap, .bool true]) ∧ Sl w' 9 1 ao o.toList.length cap (o.toList.map Value.string) ∧ RJ w' m' T ∧ RStep w w' m m'
theorem StepPost.on {m m' : RM} {S T : J} {w w' : World} (hs : S.step = some (T, none)) (h : RJ w' m' T) (st : RStep w w' m m') : StepPost m S w (.returned (.tuple #[.slice none 0 0, .bool true])) w' :=
  .inr ⟨T, none, m', none, 0, hs, rfl, Sl.nil _ _ _, h, st⟩
theorem StepPost.off {m : RM} {S : J} {w w' : World} (hs : S.step = none) (h : RJ w' m S) (o : Only [] w w') : StepPost m S w (.returned (.tuple #[.slice none 0 0, .bool false])) w' := .inl ⟨hs, rfl, h, o⟩

set_option maxRecDepth 100000 in
set_option maxHeartbeats 4000000 in
theorem rstep_none (m : RM) (S : J) (w : World) (h : RJ w m S) (hg : S.get S.next = none) : Calls Try.prog 39 #[.pointer (some ⟨m.r, 0, none⟩)] w (StepPost m S w) := by
  have hm := m_any m S w h
  have hat : S.at S.next = -1 := by
    rcases at_cases h.ok S.next with ⟨a, _⟩ | ⟨_, _, _, _, c⟩
    · exact a
    · rw [hg] at c; cases c
  have hgo := m_go h.ok
  obtain ⟨r1, r2⟩ := h.ok.r0
  have n0 := h.ok.next0
  have n1 := h.ok.next1
  obtain ⟨u0, u1⟩ := upto_bd h.ok
  obtain ⟨l0, l1⟩ := least_bd h.ok
  obtain ⟨mb0, mb1⟩ := m_bd h.ok
  have hcnt := h.ok.count
  have HS0 := Lib.hid (fun hu => step_stay hg hu)
  have HS1 := Lib.hid (fun hu => step_jump hg hu)
  have HOk := Lib.hid h.ok
  clear hg
  obtain ⟨r, al, cl, ah, ch⟩ := m
  generalize S.mI = mi at *
  generalize S.mB = mb at *
  go_enter Try.func39, Try.ntmps39
  go_wp2_with fail
  refine hm.mono ?_
  rintro e w1 ⟨rfl, o1⟩
  have h1 := h.quiet o1
  have c0 : w1.cell? ⟨r, 0, none⟩ = some (.bool S.short) := h1.c0
  have c3 : w1.cell? ⟨r, 3, none⟩ = some (.slice ah S.held.length ch) := h1.c3
  have c4 : w1.cell? ⟨r, 4, none⟩ = some (.int .i64 S.next) := h1.c4
  have z4 : w1.frozen? ⟨r, 4, none⟩ = false := h1.fz 4
  have hr := ring37 HOk.out.ring w1
  have hac := at_any _ S S.next w1 h1
  rw [hat] at hac
  have H1 := Lib.hid (And.intro h1 o1)
  clear hm h h1 o1 hat
  rcases hgo with ⟨rfl, q1, q2⟩ | ⟨rfl, q1, q2⟩ | ⟨rfl, q2⟩
  · have HS := Lib.hid (HS1.out (by omega))
    clear HS0 HS1
    by_cases hl : S.held.length = 0
    · have hle : S.least = S.R := by
        have : S.held = [] := List.eq_nil_of_length_eq_zero hl
        unfold J.least leastL
        rw [this]
        rfl
      have e : pos S.R S.next (min (S.upto + 1) S.least) = (S.next + (mi + 1)) % S.R := by
        rw [q2, hle, show min (mi + 1) S.R = mi + 1 by omega]
        rfl
      have hset := H1.out.1.setNext ((S.next + (mi + 1)) % S.R) (Int.emod_nonneg _ (by omega)) (Int.emod_lt_of_pos _ (by omega))
      have hs := HS.out
      rw [e] at hs
      have HF := Lib.hid (StepPost.on hs hset.1 ((RStep.quiet H1.out.2).trans hset.2))
      rw [hl] at c3
      have nR : ¬ S.R = 0 := by omega
      clear HS hs hset e hle q2 u0 u1 l0 l1
      generalize S.R = R at *
      generalize S.next = n at *
      go_wp2_with (first | (go_at_call 37; refine hr.mono ?_; rintro e w' ⟨rfl, rfl⟩) | (go_at_call 38; refine hac.mono ?_; rintro e w' ⟨rfl, rfl⟩))
      go_ret2
      exact HF.out
    · have hl0 : 0 < S.held.length := by omega
      have hf := fun w' (hw : RJ w' ⟨r, al, cl, ah, ch⟩ S) => rfirst_any ⟨r, al, cl, ah, ch⟩ S w' hw hl0
      have HFi := Lib.hid hf
      have HFr := Lib.hid (fun w' (hw : RJ w' ⟨r, al, cl, ah, ch⟩ S) k (hk : k < S.held.length) => roff_any ⟨r, al, cl, ah, ch⟩ S S.held[k].q w' hw (hw.ok.frag _ (List.getElem_mem hk)).1 (hw.ok.frag _ (List.getElem_mem hk)).2.1)
      have e : pos S.R S.next (min (S.upto + 1) S.least) = (S.next + min (mi + 1) S.least) % S.R := by rw [q2]; rfl
      have HE := Lib.hid e
      have nR : ¬ S.R = 0 := by omega
      clear hf e q2 u0 u1
      go_upto_region 9 with (first | (go_at_call 37; refine hr.mono ?_; rintro e w' ⟨rfl, rfl⟩) | (go_at_call 38; refine hac.mono ?_; rintro e w' ⟨rfl, rfl⟩))
      clear hr hac c0 c3 c4 z4
      have hd := H1.out.1.drew
      have od := H1.out.2.drew
      refine wp_region_mix (fun w' => RJ w' ⟨r, al, cl, ah, ch⟩ S) [(0, true), (1, true), (2, true), (6, true), (3, true), (4, true), (5, true), (7, false), (8, false), (9, false), (10, false), (11, false), (12, false), (13, false)] mixed (by kernel_rfl) (fun d v c a w h => by cases d <;> exact h) hd ?_
      simp only [List.filterMap_cons, List.filterMap_nil, List.getElem?_cons_succ, List.getElem?_cons_zero, Option.map_some]
      generalize w1.drew = w2 at *
      iterate 4 ((with_reducible refine mix_move ?_ ?_); (focus rfl))
      iterate 3 ((with_reducible refine mix_free ?_ (v := ?_) (fun w' h' => ?_) ?_); (focus rfl); rotate_left; (focus (have c3 : w'.cell? ⟨r, 3, none⟩ = some (.slice ah S.held.length ch) := h'.c3; go_simp <;> with_reducible rfl)))
      with_reducible refine mix_op ?_ ?_
      · rfl
      intro K hK
      go_step
      refine (HFi.out _ hd).mono ?_
      rintro e w3 ⟨k, hk, rfl, hoff, o3⟩
      have h3 := hd.quiet o3
      refine hK _ _ h3 ?_
      clear hK K
      obtain ⟨gb, go, hah⟩ := h3.held.some (by omega)
      have hah' : ah = some ⟨gb, go, none⟩ := hah
      subst hah'
      have f2 := h3.held.cells _ _ (Cutp.flatF_get S.held k hk).2.2.1
      simp only [← Nat.add_assoc] at f2
      have hcall := HFr.out _ h3 k hk
      rw [hoff] at hcall
      have o13 := od.trans o3
      have hset := h3.setNext ((S.next + min (mi + 1) S.least) % S.R) (Int.emod_nonneg _ (by omega)) (Int.emod_lt_of_pos _ (by omega))
      have hs := HS.out
      rw [HE.out] at hs
      have HF := Lib.hid (StepPost.on hs hset.1 ((RStep.quiet o13).trans hset.2))
      have c4 : w3.cell? ⟨r, 4, none⟩ = some (.int .i64 S.next) := h3.c4
      have z4 : w3.frozen? ⟨r, 4, none⟩ = false := h3.fz 4
      have H3 := Lib.hid h3
      clear hs hset hoff o13 od o3 hd h3 HFr HFi HS HE H1
      iterate 3 ((with_reducible refine mix_op ?_ ?_); (focus rfl); intro K hK; go_step; refine hK _ _ H3.out ?_; clear hK K)
      with_reducible refine mix_op ?_ ?_
      · rfl
      intro K hK
      go_step
      refine hcall.mono ?_
      rintro e w4 ⟨rfl, rfl⟩
      refine hK _ _ H3.out ?_
      clear hK K hcall f2
      have x0 : 0 ≤ min (mi + 1) S.least := by omega
      have x1 : min (mi + 1) S.least ≤ 16777216 := by omega
      with_reducible refine mix_op ?_ ?_
      · rfl
      intro K hK
      refine wpO_min (p := mi + 1) (q := S.least) rfl rfl ?_
      refine hK _ _ H3.out ?_
      clear hK K
      generalize min (mi + 1) S.least = dd at *
      ((with_reducible refine mix_op ?_ ?_); (focus rfl); intro K hK; go_step; refine hK _ _ H3.out ?_; clear hK K)
      refine mix_nil ?_
      clear H3
      generalize S.R = R at *
      generalize S.next = n at *
      go_wp2_with fail
      go_ret2
      exact HF.out
  · have HF := Lib.hid (StepPost.off (HS0.out (by omega)) H1.out.1 H1.out.2)
    clear HS0 HS1 q2 u0 u1 c3
    go_wp2_with (first | (go_at_call 37; refine hr.mono ?_; rintro e w' ⟨rfl, rfl⟩) | (go_at_call 38; refine hac.mono ?_; rintro e w' ⟨rfl, rfl⟩))
    go_ret2
    exact HF.out
  · have HF := Lib.hid (StepPost.off (HS0.out (by omega)) H1.out.1 H1.out.2)
    clear HS0 HS1 q2 u0 u1 c3
    go_wp2_with (first | (go_at_call 37; refine hr.mono ?_; rintro e w' ⟨rfl, rfl⟩) | (go_at_call 38; refine hac.mono ?_; rintro e w' ⟨rfl, rfl⟩))
    go_ret2
    exact HF.out
end Go.Proofs.Ytcfgbfabokhjcaa

/- The contracts of chapter 20's Peek and Take. -/
import Derived.Test.YtjcndeanojeffaaDeal
namespace Go.Proofs.Ytjcndeanojeffaa
namespace Plain
open Go
/-- the link that asks gets the first fragment. -/
theorem give_head {row r : List Int} {link c : Int} {F : Nat → Fr} {l : List (Int × Lane)} {d : Bool} (hr : row = link :: r) (hl : look l link = some ⟨[], d⟩) : ∀ n, 1 ≤ n → ∃ ws, look (giveN row c F l n) link = some ⟨(F 0, c) :: ws, d⟩
  | 0, h => by omega
  | 1, _ => by
    refine ⟨[], ?_⟩
    show look (updL (giveN row c F l 0) (row.getD (0 % row.length) 0) _) link = _
    rw [look_updL]
    have e : row.getD (0 % row.length) 0 = link := by rw [hr]; simp
    rw [e, if_pos rfl]
    show (look l link).map _ = _
    rw [hl]
    rfl
  | n + 2, _ => by
    obtain ⟨ws, hw⟩ := give_head hr hl (c := c) (F := F) (n + 1) (by omega)
    show ∃ ws, look (updL (giveN row c F l (n + 1)) (row.getD ((n + 1) % row.length) 0) _) link = _
    rw [look_updL]
    by_cases e : link = row.getD ((n + 1) % row.length) 0
    · rw [if_pos e, hw]
      exact ⟨ws ++ [(F (n + 1), c)], rfl⟩
    · rw [if_neg e]
      exact ⟨ws, hw⟩
/-- then something lies ready. -/
theorem ready_some {S : Q} (hok : S.Ok) {k : Int} (he : S.takeE k = 0) : ∃ y ws d, (S.ready k).lane k = some ⟨y :: ws, d⟩ := by
  unfold Q.takeE at he
  unfold Q.ready
  cases hl : S.lane k with
  | none => rw [hl] at he; cases he
  | some L =>
    rw [hl] at he
    simp only at he ⊢
    by_cases hw : L.waits = []
    · rw [if_pos hw]
      split at he
      · cases he
      · rename_i hn
        have hd : L.drains = false := by
          cases hh : L.drains with
          | false => rfl
          | true => exact absurd ⟨hw, .inl hh⟩ hn
        unfold Q.deal
        cases hp : S.packs with
        | nil => exact absurd ⟨hw, .inr hp⟩ hn
        | cons s rest =>
          simp only
          obtain ⟨r, hrow⟩ := row_head hl hd
          have hs := hok.packs s (by rw [hp]; exact List.mem_cons_self)
          obtain ⟨_, _, _, m1, _⟩ := cut_bd hok hs.1 hs.2
          have hl' : look S.lanes k = some ⟨[], L.drains⟩ := by
            have : look S.lanes k = some L := hl
            rw [this, ← hw]
          obtain ⟨ws, h⟩ := give_head (c := S.cut) (F := S.frag s) hrow hl' (S.many s) m1
          exact ⟨_, ws, _, h⟩
    · rw [if_neg hw]
      cases hws : L.waits with
      | nil => exact absurd hws hw
      | cons y ws => exact ⟨y, ws, L.drains, by rw [hl, ← hws]⟩
theorem ready_ok {S : Q} (hok : S.Ok) (k : Int) (he : S.takeE k = 0) : (S.ready k).Ok := by
  unfold Q.takeE at he
  unfold Q.ready
  cases hl : S.lane k with
  | none => exact hok
  | some L =>
    rw [hl] at he
    simp only at he ⊢
    by_cases hw : L.waits = []
    · rw [if_pos hw]
      split at he
      · cases he
      · rename_i hn
        have hd : L.drains = false := by
          cases hh : L.drains with
          | false => rfl
          | true => exact absurd ⟨hw, .inl hh⟩ hn
        unfold Q.deal
        cases hp : S.packs with
        | nil => exact hok
        | cons s rest =>
          simp only
          obtain ⟨r, hrow⟩ := row_head hl hd
          exact dealt_ok hok hp (by rw [hrow]; simp)
    · rw [if_neg hw]; exact hok
theorem takeS_ok {S : Q} (hok : S.Ok) (k : Int) : (S.takeS k).Ok := by
  unfold Q.takeS
  split
  · rename_i he
    exact pop_ok (ready_ok hok k he) k
  · exact hok
end Plain
open Go.RowKit
open Plain
def frV (f : Fr) : Value := .agg #[.bool f.b, .bool f.e, .int .i64 f.q, .string f.d]
set_option maxRecDepth 100000 in
set_option maxHeartbeats 4000000 in
theorem peek_none (m : Mem) (S : Q) (k : Int) (w : World) (h : PQ w m S) (k0 : -9223372036854775808 ≤ k) (k1 : k ≤ 9223372036854775807) (hx : m.at_ k = none) :
    Calls Try.prog 18 #[.pointer (some ⟨m.p, 0, none⟩), .int .i64 k] w fun e w' => e = .returned (.tuple #[frV zeroFr, .int .i64 2002]) ∧ PQ w' m S ∧ Step w w' m m := by
  have oa : Only [] w (w.alloc (.cells #[.bool false, .bool false, .int .i64 0, .string ⟨#[]⟩] 32)) := (Only.refl _ _).alloc _
  have q := h.quiet oa
  have c6 := q.c6
  have l1 := q.laneNone k k0 k1 hx
  have hT := heap_alloc_new' w (.cells #[.bool false, .bool false, .int .i64 0, .string ⟨#[]⟩] 32)
  have HF := Lib.hid (And.intro q (Step.quiet (m := m) oa))
  clear h hx q oa
  go_enter Try.func18, Try.ntmps18
  go_wp2_with fail
  exact bodyPost_ret (v := .tuple #[frV zeroFr, .int .i64 2002]) (by simp [results, Try.results18, go_sem]; rfl) rfl ⟨rfl, HF.out⟩

theorem row_front {w : World} {x : LM} (hat : x.At w) {f : Fr} {c : Int} {ws : List (Fr × Int)} (hw : x.L.waits = (f, c) :: ws) : ∃ ga oa, x.ao = some ⟨ga, oa, none⟩ ∧ w.cell? ⟨x.g, 0, none⟩ = some (.slice (some ⟨ga, oa, none⟩) (ws.length + 1) x.cap) ∧ w.cell? ⟨ga, oa, none⟩ = some (.bool f.b) ∧ w.cell? ⟨ga, oa + 1, none⟩ = some (.bool f.e) ∧ w.cell? ⟨ga, oa + 2, none⟩ = some (.int .i64 f.q) ∧ w.cell? ⟨ga, oa + 3, none⟩ = some (.string f.d) ∧ w.cell? ⟨ga, oa + 4, none⟩ = some (.int .i64 c) := by
  have hn : x.L.waits.length = ws.length + 1 := by rw [hw]; rfl
  obtain ⟨ga, oa, e⟩ := hat.row.some (by rw [hn]; omega)
  have h0 := hat.c0
  have hr := hat.row
  rw [e, hn] at h0
  rw [e, hw, flatW_cons] at hr
  exact ⟨ga, oa, e, h0, hr.cells 0 _ rfl, hr.cells 1 _ rfl, hr.cells 2 _ rfl, hr.cells 3 _ rfl, hr.cells 4 _ rfl⟩
set_option maxRecDepth 100000 in
set_option maxHeartbeats 4000000 in
theorem peek_front (m : Mem) (S : Q) (k : Int) (w : World) (h : PQ w m S) (k0 : -9223372036854775808 ≤ k) (k1 : k ≤ 9223372036854775807) (x : LM) (hx : m.at_ k = some x) (f : Fr) (c : Int) (ws : List (Fr × Int)) (hw : x.L.waits = (f, c) :: ws) :
    Calls Try.prog 18 #[.pointer (some ⟨m.p, 0, none⟩), .int .i64 k] w fun e w' => e = .returned (.tuple #[frV f, .int .i64 0]) ∧ PQ w' m S ∧ Step w w' m m := by
  have oa : Only [] w (w.alloc (Obj.cells #[Value.bool false, Value.bool false, Value.int IntKind.i64 0, Value.string ⟨#[]⟩] 32)) := (Only.refl _ _).alloc _
  have q := h.quiet oa
  have c6 := q.c6
  have l1 := q.laneSome k k0 k1 hx
  have hat := q.at_ x (Mem.at_in hx).1
  obtain ⟨ga, oo, hao, g0, e0, e1, e2, e3, e4⟩ := row_front hat hw
  have hT := heap_alloc_new' w (Obj.cells #[Value.bool false, Value.bool false, Value.int IntKind.i64 0, Value.string ⟨#[]⟩] 32)
  have hp : ¬ 0 = ws.length + 1 := by omega
  generalize ws.length + 1 = n at *
  have d0 : decide ((n : Int) = 0) = false := by simp; omega
  have HF := Lib.hid (fun X => And.intro (h.quiet ((Only.refl _ _).alloc X)) (Step.quiet (m := m) ((Only.refl _ w).alloc X)))
  clear h hx q oa hat hao
  go_enter Try.func18, Try.ntmps18
  go_wp2_with fail
  exact bodyPost_ret (v := .tuple #[frV f, .int .i64 0]) (by simp [results, Try.results18, go_sem]; rfl) rfl ⟨rfl, HF.out _⟩

set_option maxRecDepth 100000 in
set_option maxHeartbeats 4000000 in
theorem peek_busy (m : Mem) (S : Q) (k : Int) (w : World) (h : PQ w m S) (k0 : -9223372036854775808 ≤ k) (k1 : k ≤ 9223372036854775807) (x : LM) (hx : m.at_ k = some x) (hw : x.L.waits = []) (hd : x.L.drains = true ∨ S.packs = []) :
    Calls Try.prog 18 #[.pointer (some ⟨m.p, 0, none⟩), .int .i64 k] w fun e w' => e = .returned (.tuple #[frV zeroFr, .int .i64 2003]) ∧ PQ w' m S ∧ Step w w' m m := by
  have oa : Only [] w (w.alloc (Obj.cells #[Value.bool false, Value.bool false, Value.int IntKind.i64 0, Value.string ⟨#[]⟩] 32)) := (Only.refl _ _).alloc _
  have q := h.quiet oa
  have c6 := q.c6
  have c3 := q.c3
  have l1 := q.laneSome k k0 k1 hx
  have hat := q.at_ x (Mem.at_in hx).1
  have g0 := hat.c0
  have g1 := hat.c1
  have hl0 : x.L.waits.length = 0 := by rw [hw]; rfl
  rw [hl0] at g0
  have hT := heap_alloc_new' w (Obj.cells #[Value.bool false, Value.bool false, Value.int IntKind.i64 0, Value.string ⟨#[]⟩] 32)
  have HF := Lib.hid (fun X => And.intro (h.quiet ((Only.refl _ _).alloc X)) (Step.quiet (m := m) ((Only.refl _ w).alloc X)))
  cases hdr : x.L.drains with
  | true =>
    rw [hdr] at g1
    clear h hx q oa hat hd hdr hw hl0 c3
    go_enter Try.func18, Try.ntmps18
    go_wp2_with fail
    exact bodyPost_ret (v := .tuple #[frV zeroFr, .int .i64 2003]) (by simp [results, Try.results18, go_sem]; rfl) rfl ⟨rfl, HF.out _⟩
  | false =>
    rw [hdr] at g1
    have hp0 : S.packs.length = 0 := by rcases hd with e | e; · rw [hdr] at e; cases e
                                        · rw [e]; rfl
    rw [hp0] at c3
    clear h hx q oa hat hd hdr hw hl0 hp0
    go_enter Try.func18, Try.ntmps18
    go_wp2_with fail
    exact bodyPost_ret (v := .tuple #[frV zeroFr, .int .i64 2003]) (by simp [results, Try.results18, go_sem]; rfl) rfl ⟨rfl, HF.out _⟩

set_option maxRecDepth 100000 in
set_option maxHeartbeats 4000000 in
theorem peek_deal (m : Mem) (S : Q) (k : Int) (w : World) (h : PQ w m S) (hok : S.Ok) (k0 : -9223372036854775808 ≤ k) (k1 : k ≤ 9223372036854775807) (x : LM) (hx : m.at_ k = some x) (hw : x.L.waits = []) (hd : x.L.drains = false) (s : ByteArray) (rest : List ByteArray) (hp : S.packs = s :: rest) (f : Fr) (c : Int) (ws : List (Fr × Int)) (d : Bool) (hr : (S.dealt k s rest).lane k = some ⟨(f, c) :: ws, d⟩) :
    Calls Try.prog 18 #[.pointer (some ⟨m.p, 0, none⟩), .int .i64 k] w fun e w' => e = .returned (.tuple #[frV f, .int .i64 0]) ∧ ∃ m', PQ w' m' (S.dealt k s rest) ∧ Step w w' m m' := by
  have oa : Only [] w (w.alloc (Obj.cells #[Value.bool false, Value.bool false, Value.int IntKind.i64 0, Value.string ⟨#[]⟩] 32)) := (Only.refl _ _).alloc _
  have q := h.quiet oa
  have c6 := q.c6
  have c3 := q.c3
  have l1 := q.laneSome k k0 k1 hx
  have hat := q.at_ x (Mem.at_in hx).1
  have g0 := hat.c0
  have g1 := hat.c1
  have hl0 : x.L.waits.length = 0 := by rw [hw]; rfl
  rw [hl0] at g0
  rw [hd] at g1
  have hT := heap_alloc_new' w (Obj.cells #[Value.bool false, Value.bool false, Value.int IntKind.i64 0, Value.string ⟨#[]⟩] 32)
  have hpl : S.packs.length = rest.length + 1 := by rw [hp]; rfl
  rw [hpl] at c3
  have hn0 : ¬ rest.length + 1 = 0 := by omega
  generalize rest.length + 1 = n at *
  have d0 : decide ((n : Int) = 0) = false := by simp; omega
  have hl : S.lane k = some x.L := by rw [h.lane, hx]; rfl
  have HD := Lib.hid (deal_any m S k s rest x.L (w.alloc (Obj.cells #[Value.bool false, Value.bool false, Value.int IntKind.i64 0, Value.string ⟨#[]⟩] 32)) q hok hp hl hd)
  have HX := Lib.hid hx
  have HO := Lib.hid oa
  have HR := Lib.hid hr
  have HLT := Lib.hid h.lt
  clear h hx q oa hat hd hw hl0 hr hp hpl hl
  go_enter Try.func18, Try.ntmps18
  go_wp2_with fail
  refine HD.out.mono ?_
  rintro e w1 ⟨rfl, m1, q1, s1, hg⟩
  have hT1 : w1.heap[w.heap.size]? = some (Obj.cells #[Value.bool false, Value.bool false, Value.int IntKind.i64 0, Value.string ⟨#[]⟩] 32) := s1.only.at hT (fun hk => by have := HLT.out _ hk; omega)
  have hTn : w.heap.size ∉ m1.foot := fun hk => by
    rcases s1.foot _ hk with e | e
    · have := HLT.out _ e; omega
    · have e2 := lt_of_block hT
      omega
  have hx1 : ∃ x1, m1.at_ k = some x1 ∧ x1.g = x.g := by
    have := hg k
    rw [HX.out] at this
    cases e : m1.at_ k with
    | none => rw [e] at this; cases this
    | some x1 => rw [e] at this; exact ⟨x1, rfl, Option.some.inj this⟩
  obtain ⟨x1, hx1, hg1⟩ := hx1
  have hL1 : x1.L = ⟨(f, c) :: ws, d⟩ := by
    have e1 := HR.out
    rw [q1.lane, hx1] at e1
    exact Option.some.inj e1
  obtain ⟨ga, oo, hao, g2, e0, e1, e2, e3, e4⟩ := row_front (q1.at_ x1 (Mem.at_in hx1).1) (show x1.L.waits = (f, c) :: ws by rw [hL1])
  rw [hg1] at g2
  have HF : Hid (∀ w2, Only [w.heap.size] w1 w2 → PQ w2 m1 (S.dealt k s rest) ∧ Step w w2 m m1) := fun w2 o2 => by
    have sq : Step w w1 m m1 := (Step.quiet HO.out).trans s1
    refine ⟨q1.only o2 (fun j hj => by simp only [List.mem_singleton]; intro e; rw [e] at hj; exact hTn hj), sq.p, ?_, sq.foot⟩
    exact sq.only.trans' o2 (fun j hj => by rw [List.mem_singleton.1 hj]; exact .inr (Nat.le_refl _))
  have t0 := cell_of hT1 0
  have t1 := cell_of hT1 1
  have t2 := cell_of hT1 2
  have t3 := cell_of hT1 3
  have z0 := frozen_of hT1 0
  have z1 := frozen_of hT1 1
  have z2 := frozen_of hT1 2
  have z3 := frozen_of hT1 3
  have hn1 : ¬ 0 = ws.length + 1 := by omega
  have HT1 := Lib.hid hT1
  clear hT1 hTn s1 hg q1 hx1 hg1 hL1 hao HO HX HR HLT HD hT g0 g1 c3 c6 l1 d0 hn0
  generalize ws.length + 1 = n1 at *
  generalize w.heap.size = T at *
  go_wp2_with fail
  have o2 : Only [T] w1 ((((w1.setCell ⟨T, 0, none⟩ (.bool f.b)).setCell ⟨T, 1, none⟩ (.bool f.e)).setCell ⟨T, 2, none⟩ (.int .i64 f.q)).setCell ⟨T, 3, none⟩ (.string f.d)) := ((((Only.refl [T] w1).setCell (.inl (List.mem_singleton.2 rfl)) _).setCell (.inl (List.mem_singleton.2 rfl)) _).setCell (.inl (List.mem_singleton.2 rfl)) _).setCell (.inl (List.mem_singleton.2 rfl)) _
  have r4 := heap_setCell_same (o := 3) (heap_setCell_same (o := 2) (heap_setCell_same (o := 1) (heap_setCell_same (o := 0) HT1.out (.bool f.b)) (.bool f.e)) (.int .i64 f.q)) (.string f.d)
  generalize (((w1.setCell ⟨T, 0, none⟩ (.bool f.b)).setCell ⟨T, 1, none⟩ (.bool f.e)).setCell ⟨T, 2, none⟩ (.int .i64 f.q)).setCell ⟨T, 3, none⟩ (.string f.d) = w2 at *
  have u0 := cell_of r4 0
  have u1 := cell_of r4 1
  have u2 := cell_of r4 2
  have u3 := cell_of r4 3
  simp at u0 u1 u2 u3
  have := HF.out w2 o2
  exact bodyPost_ret (v := .tuple #[frV f, .int .i64 0]) (by simp [results, Try.results18, go_sem, u0, u1, u2, u3]; rfl) rfl ⟨rfl, m1, this⟩

theorem ready_same {S : Q} {k : Int} {L : Lane} (hl : S.lane k = some L) (hw : L.waits ≠ []) : S.ready k = S := by
  unfold Q.ready
  rw [hl]
  simp only
  rw [if_neg hw]
theorem peek_any (m : Mem) (S : Q) (k : Int) (w : World) (h : PQ w m S) (hok : S.Ok) (k0 : -9223372036854775808 ≤ k) (k1 : k ≤ 9223372036854775807) :
    Calls Try.prog 18 #[.pointer (some ⟨m.p, 0, none⟩), .int .i64 k] w fun e w' => (S.takeE k ≠ 0 ∧ e = .returned (.tuple #[frV zeroFr, .int .i64 (S.takeE k)]) ∧ PQ w' m S ∧ Step w w' m m) ∨ (S.takeE k = 0 ∧ ∃ f c ws d, (S.ready k).lane k = some ⟨(f, c) :: ws, d⟩ ∧ e = .returned (.tuple #[frV f, .int .i64 0]) ∧ ∃ m', PQ w' m' (S.ready k) ∧ Step w w' m m') := by
  cases hx : m.at_ k with
  | none =>
    have hl : S.lane k = none := by rw [h.lane, hx]; rfl
    have he : S.takeE k = 2002 := by unfold Q.takeE; rw [hl]
    refine (peek_none m S k w h k0 k1 hx).mono fun e w' r => .inl ?_
    rw [he]
    exact ⟨by decide, r⟩
  | some x =>
    have hl : S.lane k = some x.L := by rw [h.lane, hx]; rfl
    by_cases hw : x.L.waits = []
    · by_cases hd : x.L.drains = true ∨ S.packs = []
      · have he : S.takeE k = 2003 := by unfold Q.takeE; rw [hl]; simp only; rw [if_pos ⟨hw, hd⟩]
        refine (peek_busy m S k w h k0 k1 x hx hw hd).mono fun e w' r => .inl ?_
        rw [he]
        exact ⟨by decide, r⟩
      · have he : S.takeE k = 0 := by unfold Q.takeE; rw [hl]; simp only; rw [if_neg (fun c => hd c.2)]
        obtain ⟨⟨f, c⟩, ws, d, hr⟩ := ready_some hok he
        have hdr : x.L.drains = false := by
          cases e : x.L.drains with
          | false => rfl
          | true => exact absurd (.inl e) hd
        cases hp : S.packs with
        | nil => exact absurd (.inr hp) hd
        | cons s rest =>
          have hrd : S.ready k = S.dealt k s rest := by
            unfold Q.ready
            rw [hl]
            simp only
            rw [if_pos hw]
            unfold Q.deal
            rw [hp]
          refine (peek_deal m S k w h hok k0 k1 x hx hw hdr s rest hp f c ws d (by rw [← hrd]; exact hr)).mono fun e w' r => .inr ?_
          rw [hrd]
          rw [hrd] at hr
          exact ⟨he, f, c, ws, d, hr, r.1, r.2⟩
    · have he : S.takeE k = 0 := by unfold Q.takeE; rw [hl]; simp only; rw [if_neg (fun c => hw c.1)]
      have hrd := ready_same hl hw
      obtain ⟨⟨f, c⟩, ws, hws⟩ := List.exists_cons_of_ne_nil hw
      refine (peek_front m S k w h k0 k1 x hx f c ws hws).mono fun e w' r => .inr ?_
      rw [hrd]
      exact ⟨he, f, c, ws, x.L.drains, by rw [hl, ← hws], r.1, m, r.2⟩

theorem takeS_zero {S : Q} {k : Int} (h : S.takeE k = 0) : S.takeS k = (S.ready k).pop k := by unfold Q.takeS; rw [if_pos h]
theorem takeS_bad {S : Q} {k : Int} (h : S.takeE k ≠ 0) : S.takeS k = S := by unfold Q.takeS; rw [if_neg h]
theorem takeF_bad {S : Q} {k : Int} (h : S.takeE k ≠ 0) : S.takeF k = zeroFr := by unfold Q.takeF; rw [if_neg h]
theorem takeF_zero {S : Q} {k : Int} (h : S.takeE k = 0) {f : Fr} {c : Int} {ws : List (Fr × Int)} {d : Bool} (hr : (S.ready k).lane k = some ⟨(f, c) :: ws, d⟩) : S.takeF k = f := by unfold Q.takeF; rw [if_pos h]; unfold Q.head; rw [hr]
theorem pop_eq {T : Q} {k : Int} {f : Fr} {c : Int} {ws : List (Fr × Int)} {d : Bool} (hr : T.lane k = some ⟨(f, c) :: ws, d⟩) : T.pop k = { T with lanes := updL T.lanes k (fun L => { L with waits := ws }), opn := decO T.opn c } := by unfold Q.pop; rw [hr]


set_option maxRecDepth 100000 in
set_option maxHeartbeats 4000000 in
theorem take_bad (m : Mem) (S : Q) (k : Int) (w : World) (h : PQ w m S) (hok : S.Ok) (k0 : -9223372036854775808 ≤ k) (k1 : k ≤ 9223372036854775807) (he : S.takeE k ≠ 0) (ee : Int) (hee : S.takeE k = ee) :
    Calls Try.prog 11 #[.pointer (some ⟨m.p, 0, none⟩), .int .i64 k] w fun e w' => e = .returned (.tuple #[frV zeroFr, .int .i64 ee]) ∧ PQ w' m S ∧ Step w w' m m := by
  have oa : Only [] w (w.alloc (Obj.cells #[Value.bool false, Value.bool false, Value.int IntKind.i64 0, Value.string ⟨#[]⟩] 32)) := (Only.refl _ _).alloc _
  have q := h.quiet oa
  have hT := heap_alloc_new' w (Obj.cells #[Value.bool false, Value.bool false, Value.int IntKind.i64 0, Value.string ⟨#[]⟩] 32)
  have hp : Calls Try.prog 18 #[.pointer (some ⟨m.p, 0, none⟩), .int .i64 k] (w.alloc (Obj.cells #[Value.bool false, Value.bool false, Value.int IntKind.i64 0, Value.string ⟨#[]⟩] 32)) fun e w' => e = .returned (.tuple #[frV zeroFr, .int .i64 ee]) ∧ PQ w' m S ∧ Step (w.alloc (Obj.cells #[Value.bool false, Value.bool false, Value.int IntKind.i64 0, Value.string ⟨#[]⟩] 32)) w' m m := by
    refine (peek_any m S k (w.alloc (Obj.cells #[Value.bool false, Value.bool false, Value.int IntKind.i64 0, Value.string ⟨#[]⟩] 32)) q hok k0 k1).mono fun e w' r => ?_
    rcases r with ⟨_, r⟩ | ⟨r, _⟩
    · rw [hee] at r; exact r
    · exact absurd r he
  have HP := Lib.hid hp
  have HLT := Lib.hid h.lt
  have HO := Lib.hid oa
  rw [hee] at he
  have d0 : decide (ee = 0) = false := by simpa using he
  have d1 : ¬ ee = 0 := he
  have d2 : ¬ 0 = ee := fun e => he e.symm
  clear h q oa hee hok he hp
  go_enter Try.func11, Try.ntmps11
  go_wp2_with fail
  refine HP.out.mono ?_
  rintro e w1 ⟨rfl, q1, s1⟩
  have hT1 : w1.heap[w.heap.size]? = some (Obj.cells #[Value.bool false, Value.bool false, Value.int IntKind.i64 0, Value.string ⟨#[]⟩] 32) := s1.only.at hT (fun hk => by have := HLT.out _ hk; omega)
  have HF : Hid (∀ w2, Only [w.heap.size] w1 w2 → PQ w2 m S ∧ Step w w2 m m) := fun w2 o2 => by
    have sq : Step w w1 m m := (Step.quiet HO.out).trans s1
    refine ⟨q1.only o2 (fun j hj => by simp only [List.mem_singleton]; intro e; rw [e] at hj; have := HLT.out _ hj; omega), sq.p, ?_, sq.foot⟩
    exact sq.only.trans' o2 (fun j hj => by rw [List.mem_singleton.1 hj]; exact .inr (Nat.le_refl _))
  have oa2 := (Only.refl [w.heap.size] w1).alloc (Obj.cells #[Value.bool false, Value.bool false, Value.int IntKind.i64 0, Value.string ⟨#[]⟩] 32)
  have hT2 : (w1.alloc (Obj.cells #[Value.bool false, Value.bool false, Value.int IntKind.i64 0, Value.string ⟨#[]⟩] 32)).heap[w.heap.size]? = some (Obj.cells #[Value.bool false, Value.bool false, Value.int IntKind.i64 0, Value.string ⟨#[]⟩] 32) := ((Only.refl [] w1).alloc (Obj.cells #[Value.bool false, Value.bool false, Value.int IntKind.i64 0, Value.string ⟨#[]⟩] 32)).at hT1 (by simp)
  clear hT1 hT s1 q1 HLT HO HP
  simp only [frV, zeroFr]
  generalize w.heap.size = T at *
  go_upto_region 2 with fail
  have z0 := frozen_of hT2 0
  have z1 := frozen_of hT2 1
  have z2 := frozen_of hT2 2
  have z3 := frozen_of hT2 3
  have t0 := cell_of hT2 0
  have t1 := cell_of hT2 1
  have t2 := cell_of hT2 2
  have t3 := cell_of hT2 3
  have HT2 := Lib.hid hT2
  clear hT2
  have HOA := Lib.hid oa2
  clear oa2
  generalize w1.alloc (Obj.cells #[Value.bool false, Value.bool false, Value.int IntKind.i64 0, Value.string ⟨#[]⟩] 32) = w2 at *
  go_wp2_with fail
  have o2 : Only [T] w2 ((((w2.setCell ⟨T, 0, none⟩ (.bool false)).setCell ⟨T, 1, none⟩ (.bool false)).setCell ⟨T, 2, none⟩ (.int .i64 0)).setCell ⟨T, 3, none⟩ (.string ⟨#[]⟩)) := ((((Only.refl [T] w2).setCell (.inl (List.mem_singleton.2 rfl)) _).setCell (.inl (List.mem_singleton.2 rfl)) _).setCell (.inl (List.mem_singleton.2 rfl)) _).setCell (.inl (List.mem_singleton.2 rfl)) _
  have r4 := heap_setCell_same (o := 3) (heap_setCell_same (o := 2) (heap_setCell_same (o := 1) (heap_setCell_same (o := 0) HT2.out (.bool false)) (.bool false)) (.int .i64 0)) (.string ⟨#[]⟩)
  generalize (((w2.setCell ⟨T, 0, none⟩ (.bool false)).setCell ⟨T, 1, none⟩ (.bool false)).setCell ⟨T, 2, none⟩ (.int .i64 0)).setCell ⟨T, 3, none⟩ (.string ⟨#[]⟩) = w3 at *
  have u0 := cell_of r4 0
  have u1 := cell_of r4 1
  have u2 := cell_of r4 2
  have u3 := cell_of r4 3
  simp at u0 u1 u2 u3
  have := HF.out w3 (HOA.out.trans o2)
  exact bodyPost_ret (v := .tuple #[frV zeroFr, .int .i64 ee]) (by simp [results, Try.results11, go_sem, u0, u1, u2, u3]; rfl) rfl ⟨rfl, this⟩

theorem lane_pop {w : World} {m : Mem} {S : Q} (h : PQ w m S) {k : Int} {x : LM} (hx : m.at_ k = some x) {F : Fr} {c : Int} {ws : List (Fr × Int)} {d : Bool} (hL : x.L = ⟨(F, c) :: ws, d⟩) {ga oo : Nat} (hao : x.ao = some ⟨ga, oo, none⟩) :
    ∃ m', PQ (w.setCell ⟨x.g, 0, none⟩ (.slice (if x.cap = 1 then some ⟨ga, oo, none⟩ else some ⟨ga, oo + 5, none⟩) ws.length (x.cap - 1))) m' { S with lanes := updL S.lanes k fun L => { L with waits := ws } } ∧
      Step w (w.setCell ⟨x.g, 0, none⟩ (.slice (if x.cap = 1 then some ⟨ga, oo, none⟩ else some ⟨ga, oo + 5, none⟩) ws.length (x.cap - 1))) m m' := by
  obtain ⟨hin, hxk⟩ := Mem.at_in hx
  have hat := h.at_ x hin
  have hr := hat.row
  rw [hao, hL] at hr
  have hr2 := hr.lo 1 (by simp)
  have e1 : (flatW ((F, c) :: ws)).drop (1 * 5) = flatW ws := by rw [flatW_cons]; rfl
  have e2 : ((F, c) :: ws).length - 1 = ws.length := by simp
  simp only [e1, e2] at hr2
  have hblk : blk (if x.cap = 1 then some (⟨ga, oo, none⟩ : Addr) else some ⟨ga, oo + 1 * 5, none⟩) = some ga := by split <;> rfl
  have hne : ga ≠ x.g := fun e => hat.ne (by rw [hao]; show some ga = _; rw [e])
  generalize hv : (.slice (if x.cap = 1 then some ⟨ga, oo, none⟩ else some ⟨ga, oo + 5, none⟩) ws.length (x.cap - 1) : Value) = v
  have o : Only x.foot w (w.setCell ⟨x.g, 0, none⟩ v) := (Only.refl _ _).setCell (.inl (show x.g ∈ x.foot from List.mem_cons_self)) _
  refine ⟨_, h.updLane (x' := { x with ao := (if x.cap = 1 then some (⟨ga, oo, none⟩ : Addr) else some ⟨ga, oo + 1 * 5, none⟩), cap := x.cap - 1, L := { x.L with waits := ws } }) (g := fun L => { L with waits := ws }) hx hxk rfl ⟨?_, ?_⟩ o (fun j hj => .inl ?_) rfl⟩
  · have := heap_setCell_same (o := 0) hat.obj v
    rw [← hv] at this
    rw [← hv]
    simpa using this
  · refine Sl.kept hr2 (fun j hj => heap_setCell_ne (fun e => ?_) _)
    rw [hblk] at hj
    exact hne ((Option.some.inj hj).trans (by first | exact e | exact e.symm))
  · rw [hblk] at hj
    rw [hao]
    exact hj
theorem opn_bd {S : Q} (hok : S.Ok) {k : Int} {F : Fr} {c : Int} {ws : List (Fr × Int)} {d : Bool} (hr : S.lane k = some ⟨(F, c) :: ws, d⟩) : 0 ≤ c ∧ c ≤ 1000000 ∧ 1 ≤ (look S.opn c).getD 0 ∧ (look S.opn c).getD 0 ≤ 64 ∧ S.opn.length ≤ 64 := by
  have hin : (k, _) ∈ S.lanes := look_mem hr
  have hn := hok.nums _ hin (F, c) List.mem_cons_self
  have hc := hok.cut1
  have hp : 0 < cnt S.lanes c := cnt_pos hin (x := (F, c)) List.mem_cons_self rfl
  have ho := hok.opn c
  rw [if_pos hp] at ho
  have hv := hok.opv _ (look_mem ho)
  have hl := hok.len64
  rw [ho]
  simp only at hn hv
  simp only [Option.getD_some]
  omega

set_option maxRecDepth 100000 in
set_option maxHeartbeats 4000000 in
theorem take_good (m : Mem) (S : Q) (k : Int) (w : World) (h : PQ w m S) (hok : S.Ok) (k0 : -9223372036854775808 ≤ k) (k1 : k ≤ 9223372036854775807) (he : S.takeE k = 0) :
    Calls Try.prog 11 #[.pointer (some ⟨m.p, 0, none⟩), .int .i64 k] w fun e w' => e = .returned (.tuple #[frV (S.takeF k), .int .i64 0]) ∧ ∃ m', PQ w' m' (S.takeS k) ∧ Step w w' m m' := by
  have oa : Only [] w (w.alloc (Obj.cells #[Value.bool false, Value.bool false, Value.int IntKind.i64 0, Value.string ⟨#[]⟩] 32)) := (Only.refl _ _).alloc _
  have q := h.quiet oa
  have hT := heap_alloc_new' w (Obj.cells #[Value.bool false, Value.bool false, Value.int IntKind.i64 0, Value.string ⟨#[]⟩] 32)
  have hp : Calls Try.prog 18 #[.pointer (some ⟨m.p, 0, none⟩), .int .i64 k] (w.alloc (Obj.cells #[Value.bool false, Value.bool false, Value.int IntKind.i64 0, Value.string ⟨#[]⟩] 32)) fun e w' => ∃ f c ws d, (S.ready k).lane k = some ⟨(f, c) :: ws, d⟩ ∧ e = .returned (.tuple #[frV f, .int .i64 0]) ∧ ∃ m', PQ w' m' (S.ready k) ∧ Step (w.alloc (Obj.cells #[Value.bool false, Value.bool false, Value.int IntKind.i64 0, Value.string ⟨#[]⟩] 32)) w' m m' := by
    refine (peek_any m S k (w.alloc (Obj.cells #[Value.bool false, Value.bool false, Value.int IntKind.i64 0, Value.string ⟨#[]⟩] 32)) q hok k0 k1).mono fun e w' r => ?_
    rcases r with ⟨r, _⟩ | ⟨_, r⟩
    · exact absurd he r
    · exact r
  have hrok := ready_ok hok k he
  rw [takeS_zero he]
  have HTF : Hid (∀ f c ws d, (S.ready k).lane k = some ⟨(f, c) :: ws, d⟩ → S.takeF k = f) := fun f c ws d hr => takeF_zero he hr
  generalize S.ready k = R at *
  generalize S.takeF k = F at *
  have HROK := Lib.hid hrok
  have HP := Lib.hid hp
  have HLT := Lib.hid h.lt
  have HO := Lib.hid oa
  clear h q oa hok he hp hrok
  go_enter Try.func11, Try.ntmps11
  go_wp2_with fail
  refine HP.out.mono ?_
  rintro e w1 ⟨f, c, ws, d, hr, rfl, m1, q1, s1⟩
  have hF := HTF.out f c ws d hr
  subst hF
  have HPOP := Lib.hid (pop_eq hr)
  have hT1 : w1.heap[w.heap.size]? = some (Obj.cells #[Value.bool false, Value.bool false, Value.int IntKind.i64 0, Value.string ⟨#[]⟩] 32) := s1.only.at hT (fun hk => by have := HLT.out _ hk; omega)
  have hTn : w.heap.size ∉ m1.foot := fun hk => by
    rcases s1.foot _ hk with e | e
    · have := HLT.out _ e; omega
    · have e2 := lt_of_block hT
      omega
  -- the copy of the fragment
  have hT2 : ∀ X, (w1.alloc X).heap[w.heap.size]? = some (Obj.cells #[Value.bool false, Value.bool false, Value.int IntKind.i64 0, Value.string ⟨#[]⟩] 32) := fun X => ((Only.refl [] w1).alloc X).at hT1 (by simp)
  have hU2 : ∀ X, (w1.alloc X).heap[w1.heap.size]? = some X := fun X => heap_alloc_new' w1 X
  have hUT : w1.heap.size ≠ w.heap.size := by have := lt_of_block hT1; omega
  have hUn : w1.heap.size ∉ m1.foot := fun hk => by have := q1.lt _ hk; omega
  have hq2 : ∀ X, PQ (w1.alloc X) m1 R ∧ Step w (w1.alloc X) m m1 := fun X => ⟨q1.quiet ((Only.refl _ _).alloc X), ((Step.quiet HO.out).trans s1).trans (Step.quiet ((Only.refl _ _).alloc X))⟩
  have HA := Lib.hid (And.intro hT2 (And.intro hU2 hq2))
  have HN := Lib.hid (And.intro hTn (And.intro hUn hUT))
  have hx1 : ∃ x1, m1.at_ k = some x1 ∧ x1.L = ⟨(F, c) :: ws, d⟩ := by
    have e1 := hr
    rw [q1.lane] at e1
    cases e : m1.at_ k with
    | none => rw [e] at e1; cases e1
    | some x1 => rw [e] at e1; exact ⟨x1, rfl, Option.some.inj e1⟩
  have hps : m1.p = m.p := s1.p
  have HX := Lib.hid (And.intro hx1 hps)
  have HR := Lib.hid hr
  clear hr HTF HP HLT HO hT q1 s1 hT1 hTn hT2 hU2 hUT hUn hq2 hx1 hps
  simp only [frV]
  generalize hTe : w.heap.size = T at *
  have HTE := Lib.hid (show w.heap.size ≤ T by omega)
  clear hTe
  go_upto_region 4 with fail
  obtain ⟨⟨x1, hx1, hL1⟩, hps⟩ := HX.out
  have hA := HA.out
  obtain ⟨hT2, hU2, hq2⟩ := hA
  have hT3 := hT2 (.cells #[.bool F.b, .bool F.e, .int .i64 F.q, .string F.d] 32)
  have hU3 := hU2 (.cells #[.bool F.b, .bool F.e, .int .i64 F.q, .string F.d] 32)
  have hq3 := hq2 (.cells #[.bool F.b, .bool F.e, .int .i64 F.q, .string F.d] 32)
  clear hT2 hU2 hq2 HX
  generalize w1.alloc (.cells #[.bool F.b, .bool F.e, .int .i64 F.q, .string F.d] 32) = w2 at *
  generalize w1.heap.size = U at *
  have c6 : w2.cell? ⟨m.p, 6, none⟩ = some (.map (some m1.bl)) := by rw [← hps]; exact hq3.1.c6
  have l1 := hq3.1.laneSome k k0 k1 hx1
  have hat := hq3.1.at_ x1 (Mem.at_in hx1).1
  obtain ⟨ga, oo, hao, g0, e0, e1, e2, e3, e4⟩ := row_front hat (show x1.L.waits = (F, c) :: ws by rw [hL1])
  have z0 := frozen_of hat.obj 0
  have hcap : ws.length + 1 ≤ x1.cap := by have := hat.row.2.1; rw [hL1] at this; exact this
  have hn1 : ¬ 0 = ws.length + 1 := by omega
  have HL := Lib.hid (And.intro hT3 (And.intro hU3 (And.intro hq3 (And.intro hat (And.intro hx1 (And.intro hL1 (And.intro hps hao)))))))
  clear hT3 hU3 hq3 hat hx1 hL1 hps hao
  go_upto_region 7 with fail
  obtain ⟨hT3, hU3, hq3, hat, hx1, hL1, hps, hao⟩ := HL.out
  have hlp := lane_pop hq3.1 hx1 hL1 hao
  generalize w2.setCell ⟨x1.g, 0, none⟩ (.slice (if x1.cap = 1 then some ⟨ga, oo, none⟩ else some ⟨ga, oo + 5, none⟩) ws.length (x1.cap - 1)) = w3 at *
  obtain ⟨m2, q3, s3⟩ := hlp
  have hn := HN.out
  have hT4 := s3.only.at hT3 hn.1
  have hU4 := s3.only.at hU3 hn.2.1
  have st3 := hq3.2.trans s3
  have hp2 : m2.p = m.p := s3.p.trans hps
  obtain ⟨b1, b2, b3, b4, b5⟩ := opn_bd HROK.out HR.out
  have hTn : T ∉ m2.foot := fun hk => by
    rcases s3.foot _ hk with e | e
    · exact hn.1 e
    · have := lt_of_block hT3; omega
  have hUn : U ∉ m2.foot := fun hk => by
    rcases s3.foot _ hk with e | e
    · exact hn.2.1 e
    · have := lt_of_block hU3; omega
  have hdec : decO R.opn c = if (look R.opn c).getD 0 - 1 = 0 then strike (putL R.opn c ((look R.opn c).getD 0 - 1)) c else putL R.opn c ((look R.opn c).getD 0 - 1) := rfl
  have c5 : w3.cell? ⟨m.p, 5, none⟩ = some (.map (some m2.bo)) := by rw [← hp2]; exact q3.c5
  have hwf : (Lit.int .i64 c).wf = true := wf_int (by omega) (by omega)
  have l2 := q3.opn.get keyed Try.underlying3 Try.underlying45 (zero3 w3) hwf
  have HD := Lib.hid hdec
  simp only at l2
  generalize (look R.opn c).getD 0 = v at *
  have hw1 : IntKind.i64.wrap (v - 1) = v - 1 := IntWalk.i64_in _ (by omega)
  have HQ := Lib.hid (And.intro hT4 (And.intro hU4 (And.intro q3 (And.intro st3 (And.intro hp2 (And.intro hTn (And.intro hUn hn.2.2)))))))
  clear hT4 hU4 q3 st3 hp2 hTn hUn hn hdec hT3 hU3 hq3 hat hx1 hL1 hps hao s3 c6 l1 g0 e0 e1 e2 e3 e4 z0 hcap hn1 HL HN HA
  go_upto_region 8 with ((at_mapUpdate; refine wpList_storeL _ rfl _ _ _ 45 rfl 3 3 keyed Try.underlying3 Try.underlying45 (Value.int .i64) m2.bo R.opn rfl HQ.out.2.2.1.opn (by unfold maxLen; omega) c (v - 1) rfl rfl hwf ?_; intro w4 hm4 ht4))
  obtain ⟨hT4, hU4, q3, st3, hp2, hTn, hUn, hTU⟩ := HQ.out
  obtain ⟨q4, s4⟩ := q3.setOpn hm4 ht4
  have o4 := only_turned ht4
  have nT : T ≠ m2.bo := fun e => hTn (by rw [e]; exact m2.bo_in)
  have nU : U ≠ m2.bo := fun e => hUn (by rw [e]; exact m2.bo_in)
  have hT5 := o4.at hT4 (by simpa using nT)
  have hU5 := o4.at hU4 (by simpa using nU)
  have st4 := st3.trans s4
  have c5' : w4.cell? ⟨m.p, 5, none⟩ = some (.map (some m2.bo)) := by rw [← hp2]; exact q4.c5
  have l3 := q4.opn.get keyed Try.underlying3 Try.underlying45 (zero3 w4) hwf
  rw [look_putL, if_pos rfl] at l3
  simp only [Option.getD_some] at l3
  have HQ4 := Lib.hid (And.intro hT5 (And.intro hU5 (And.intro q4 st4)))
  have HM4 := Lib.hid hm4
  have HNN := Lib.hid (And.intro nT (And.intro nU (And.intro hTn hUn)))
  clear hT4 hU4 q3 st3 hp2 hTn hUn hTU q4 s4 o4 nT nU hT5 hU5 st4 c5 l2 HQ ht4 hm4
  by_cases hv1 : v = 1
  · have hd : decO R.opn c = strike (putL R.opn c (v - 1)) c := by rw [HD.out, if_pos (by omega)]
    have hz : v - 1 = 0 := by omega
    rw [hz] at l3
    have HD2 := Lib.hid hd
    clear hd hz hv1 hw1
    go_upto_region 10 with ((at_delete; refine wpList_dropL _ rfl _ _ 45 3 rfl 3 keyed Try.underlying3 Try.underlying45 (Value.int .i64) m2.bo (putL R.opn c (v - 1)) rfl HM4.out _ rfl hwf ?_; intro w6 hm6 ht6))
    have HZ : Hid (w6.heap[T]? = some (Obj.cells #[Value.bool false, Value.bool false, Value.int IntKind.i64 0, Value.string ⟨#[]⟩] 32) ∧ w6.heap[U]? = some (.cells #[.bool F.b, .bool F.e, .int .i64 F.q, .string F.d] 32) ∧ ∀ w7, Only [T] w6 w7 → ∃ m', PQ w7 m' (R.pop k) ∧ Step w w7 m m') := by
      obtain ⟨a1, a2, a3, a4⟩ := HQ4.out
      obtain ⟨n1, n2, n3, n4⟩ := HNN.out
      have hTw := HTE.out
      have o6 := only_turned ht6
      obtain ⟨q6, s6⟩ := a3.setOpn hm6 ht6
      have b1 := o6.at a1 (by simpa using n1)
      have b2 := o6.at a2 (by simpa using n2)
      have st := a4.trans s6
      refine ⟨b1, b2, fun w7 o7 => ⟨m2, ?_, st.p, st.only.trans' o7 (fun j hj => by rw [List.mem_singleton.1 hj]; exact .inr hTw), st.foot⟩⟩
      rw [HPOP.out, HD2.out]
      exact q6.only o7 (fun j hj => by simp only [List.mem_singleton]; intro e; rw [e] at hj; exact n3 hj)
    clear HQ4 hm6 ht6 c5' l3
    generalize hWW : w6 = WW at *
    clear hWW
    obtain ⟨hT5, hU5, HFIN⟩ := HZ.out
    have u0 := cell_of hU5 0
    have u1 := cell_of hU5 1
    have u2 := cell_of hU5 2
    have u3 := cell_of hU5 3
    have t0 := cell_of hT5 0
    have t1 := cell_of hT5 1
    have t2 := cell_of hT5 2
    have t3 := cell_of hT5 3
    have z0 := frozen_of hT5 0
    have z1 := frozen_of hT5 1
    have z2 := frozen_of hT5 2
    have z3 := frozen_of hT5 3
    simp at u0 u1 u2 u3
    have HT5 := Lib.hid hT5
    have HF := Lib.hid HFIN
    clear hT5 hU5 HFIN
    go_wp2_with fail
    all_goals
      have o2 : Only [T] WW ((((WW.setCell ⟨T, 0, none⟩ (.bool F.b)).setCell ⟨T, 1, none⟩ (.bool F.e)).setCell ⟨T, 2, none⟩ (.int .i64 F.q)).setCell ⟨T, 3, none⟩ (.string F.d)) := ((((Only.refl [T] WW).setCell (.inl (List.mem_singleton.2 rfl)) _).setCell (.inl (List.mem_singleton.2 rfl)) _).setCell (.inl (List.mem_singleton.2 rfl)) _).setCell (.inl (List.mem_singleton.2 rfl)) _
      have r4 := heap_setCell_same (o := 3) (heap_setCell_same (o := 2) (heap_setCell_same (o := 1) (heap_setCell_same (o := 0) HT5.out (.bool F.b)) (.bool F.e)) (.int .i64 F.q)) (.string F.d)
      generalize (((WW.setCell ⟨T, 0, none⟩ (.bool F.b)).setCell ⟨T, 1, none⟩ (.bool F.e)).setCell ⟨T, 2, none⟩ (.int .i64 F.q)).setCell ⟨T, 3, none⟩ (.string F.d) = w7 at *
      have y0 := cell_of r4 0
      have y1 := cell_of r4 1
      have y2 := cell_of r4 2
      have y3 := cell_of r4 3
      simp at y0 y1 y2 y3
      have hend := HF.out w7 o2
      exact bodyPost_ret (v := .tuple #[frV F, .int .i64 0]) (by simp [results, Try.results11, go_sem, y0, y1, y2, y3]; rfl) rfl ⟨rfl, hend⟩
  · have hd : decO R.opn c = putL R.opn c (v - 1) := by rw [HD.out, if_neg (by omega)]
    have HD2 := Lib.hid hd
    have hne : ¬ v - 1 = 0 := by omega
    have hne2 : ¬ 0 = v - 1 := by omega
    have hd0 : decide (v - 1 = 0) = false := by simpa using hne
    clear hd
    go_upto_region 10 with fail
    have hw46 : ∃ w6, w6 = w4 := ⟨_, rfl⟩
    obtain ⟨w6, hw6⟩ := hw46
    have HZ : Hid (w6.heap[T]? = some (Obj.cells #[Value.bool false, Value.bool false, Value.int IntKind.i64 0, Value.string ⟨#[]⟩] 32) ∧ w6.heap[U]? = some (.cells #[.bool F.b, .bool F.e, .int .i64 F.q, .string F.d] 32) ∧ ∀ w7, Only [T] w6 w7 → ∃ m', PQ w7 m' (R.pop k) ∧ Step w w7 m m') := by
      obtain ⟨a1, a2, a3, a4⟩ := HQ4.out
      obtain ⟨n1, n2, n3, n4⟩ := HNN.out
      have hTw := HTE.out
      have q6 := a3
      have b1 := a1
      have b2 := a2
      rw [← hw6] at q6 b1 b2 a4
      have st := a4
      refine ⟨b1, b2, fun w7 o7 => ⟨m2, ?_, st.p, st.only.trans' o7 (fun j hj => by rw [List.mem_singleton.1 hj]; exact .inr hTw), st.foot⟩⟩
      rw [HPOP.out, HD2.out]
      exact q6.only o7 (fun j hj => by simp only [List.mem_singleton]; intro e; rw [e] at hj; exact n3 hj)
    rw [← hw6]
    clear HQ4 c5' l3 HM4 hw6
    generalize hWW : w6 = WW at *
    clear hWW
    obtain ⟨hT5, hU5, HFIN⟩ := HZ.out
    have u0 := cell_of hU5 0
    have u1 := cell_of hU5 1
    have u2 := cell_of hU5 2
    have u3 := cell_of hU5 3
    have t0 := cell_of hT5 0
    have t1 := cell_of hT5 1
    have t2 := cell_of hT5 2
    have t3 := cell_of hT5 3
    have z0 := frozen_of hT5 0
    have z1 := frozen_of hT5 1
    have z2 := frozen_of hT5 2
    have z3 := frozen_of hT5 3
    simp at u0 u1 u2 u3
    have HT5 := Lib.hid hT5
    have HF := Lib.hid HFIN
    clear hT5 hU5 HFIN
    go_wp2_with fail
    all_goals
      have o2 : Only [T] WW ((((WW.setCell ⟨T, 0, none⟩ (.bool F.b)).setCell ⟨T, 1, none⟩ (.bool F.e)).setCell ⟨T, 2, none⟩ (.int .i64 F.q)).setCell ⟨T, 3, none⟩ (.string F.d)) := ((((Only.refl [T] WW).setCell (.inl (List.mem_singleton.2 rfl)) _).setCell (.inl (List.mem_singleton.2 rfl)) _).setCell (.inl (List.mem_singleton.2 rfl)) _).setCell (.inl (List.mem_singleton.2 rfl)) _
      have r4 := heap_setCell_same (o := 3) (heap_setCell_same (o := 2) (heap_setCell_same (o := 1) (heap_setCell_same (o := 0) HT5.out (.bool F.b)) (.bool F.e)) (.int .i64 F.q)) (.string F.d)
      generalize (((WW.setCell ⟨T, 0, none⟩ (.bool F.b)).setCell ⟨T, 1, none⟩ (.bool F.e)).setCell ⟨T, 2, none⟩ (.int .i64 F.q)).setCell ⟨T, 3, none⟩ (.string F.d) = w7 at *
      have y0 := cell_of r4 0
      have y1 := cell_of r4 1
      have y2 := cell_of r4 2
      have y3 := cell_of r4 3
      simp at y0 y1 y2 y3
      have hend := HF.out w7 o2
      exact bodyPost_ret (v := .tuple #[frV F, .int .i64 0]) (by simp [results, Try.results11, go_sem, y0, y1, y2, y3]; rfl) rfl ⟨rfl, hend⟩
theorem take_any (m : Mem) (S : Q) (k : Int) (w : World) (h : PQ w m S) (hok : S.Ok) (k0 : -9223372036854775808 ≤ k) (k1 : k ≤ 9223372036854775807) :
    Calls Try.prog 11 #[.pointer (some ⟨m.p, 0, none⟩), .int .i64 k] w fun e w' => e = .returned (.tuple #[frV (S.takeF k), .int .i64 (S.takeE k)]) ∧ ∃ m', PQ w' m' (S.takeS k) ∧ Step w w' m m' := by
  by_cases he : S.takeE k = 0
  · rw [he]
    exact take_good m S k w h hok k0 k1 he
  · rw [takeF_bad he, takeS_bad he]
    exact (take_bad m S k w h hok k0 k1 he _ rfl).mono fun e w' r => ⟨r.1, m, r.2⟩
end Go.Proofs.Ytjcndeanojeffaa

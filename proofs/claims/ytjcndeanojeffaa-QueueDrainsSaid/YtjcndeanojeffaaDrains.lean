/- Chapter 20: what QueueDrains keeps. Plain. -/
import Derived.Test.YtjcndeanojeffaaLinks
namespace Go.Proofs.Ytjcndeanojeffaa
namespace Plain
open Go
def wl (l : List (Int × Lane)) (k : Int) : Nat := match look l k with | some L => L.waits.length | none => 0
theorem wl_upd (l : List (Int × Lane)) (a k : Int) (x : Fr × Int) : wl (updL l a fun L => { L with waits := L.waits ++ [x] }) k = wl l k + if k = a ∧ (look l k).isSome = true then 1 else 0 := by
  unfold wl
  rw [look_updL]
  by_cases e : k = a
  · rw [if_pos e]
    cases look l k with
    | none => simp
    | some L => simp [e]
  · rw [if_neg e, if_neg (fun h => e h.1)]
    rfl
theorem some_upd (l : List (Int × Lane)) (a k : Int) (g : Lane → Lane) : (look (updL l a g) k).isSome = (look l k).isSome := by
  rw [look_updL]
  split
  · cases look l k <;> rfl
  · rfl
theorem give_some (row : List Int) (c : Int) (F : Nat → Fr) (l : List (Int × Lane)) (k : Int) : ∀ n, (look (giveN row c F l n) k).isSome = (look l k).isSome
  | 0 => rfl
  | n + 1 => by
    show (look (updL (giveN row c F l n) _ _) k).isSome = _
    rw [some_upd, give_some row c F l k n]
theorem give_two {a b c : Int} (hab : a ≠ b) (F : Nat → Fr) {l : List (Int × Lane)} (ha : (look l a).isSome = true) (hb : (look l b).isSome = true) : ∀ n, wl (giveN [a, b] c F l n) a = wl l a + (n + 1) / 2 ∧ wl (giveN [a, b] c F l n) b = wl l b + n / 2
  | 0 => ⟨rfl, rfl⟩
  | n + 1 => by
    obtain ⟨h1, h2⟩ := give_two hab F ha hb (c := c) n
    have e : giveN [a, b] c F l (n + 1) = updL (giveN [a, b] c F l n) ([a, b].getD (n % 2) 0) fun L => { L with waits := L.waits ++ [(F n, c)] } := rfl
    rw [e, wl_upd, wl_upd, h1, h2, give_some, give_some, ha, hb]
    rcases Nat.mod_two_eq_zero_or_one n with hm | hm
    · rw [hm]
      have : ([a, b].getD 0 0) = a := rfl
      rw [this, if_pos ⟨rfl, rfl⟩, if_neg (fun h => hab h.1.symm)]
      omega
    · rw [hm]
      have : ([a, b].getD 1 0) = b := rfl
      rw [this, if_neg (fun h => hab h.1), if_pos ⟨rfl, rfl⟩]
      omega
theorem give_one {a c : Int} (F : Nat → Fr) {l : List (Int × Lane)} (ha : (look l a).isSome = true) (k : Int) : ∀ n, wl (giveN [a] c F l n) k = wl l k + if k = a then n else 0
  | 0 => by simp [giveN]
  | n + 1 => by
    have h1 := give_one F ha k (c := c) n
    have e : giveN [a] c F l (n + 1) = updL (giveN [a] c F l n) a fun L => { L with waits := L.waits ++ [(F n, c)] } := by
      show updL _ ([a].getD (n % 1) 0) _ = _
      rw [Nat.mod_one]
      rfl
    rw [e, wl_upd, h1, give_some]
    by_cases hk : k = a
    · rw [if_pos hk, if_pos hk, if_pos ⟨hk, by rw [hk]; exact ha⟩]
      omega
    · rw [if_neg hk, if_neg hk, if_neg (fun h => hk h.1)]
theorem row_nodup {S : Q} (_h : S.Ok) (link : Int) : (S.row link).Nodup := by
  unfold Q.row
  rw [List.nodup_append]
  refine ⟨up_nodup (sortL_up _), up_nodup (sortL_up _), fun a ha b hb e => ?_⟩
  subst e
  have h1 := (List.mem_filter.1 (mem_sortL.1 ha)).2
  have h2 := (List.mem_filter.1 (mem_sortL.1 hb)).2
  simp at h1 h2
  omega
/-- two links: the row is the one that asks, and the other if it does not drain. -/
theorem row_two {S : Q} (h : S.Ok) (hk : S.lanes.map (·.1) = [0, 1]) {a : Int} {L : Lane} (hl : S.lane a = some L) (hd : L.drains = false) : (a = 0 ∨ a = 1) ∧ (S.row a = [a] ∨ S.row a = [a, 1 - a]) := by
  have key : ∀ x, x ∈ S.free → x = 0 ∨ x = 1 := by
    intro x hx
    obtain ⟨L', hL', _⟩ := mem_free.1 hx
    have : x ∈ S.lanes.map (·.1) := List.mem_map.2 ⟨_, hL', rfl⟩
    rw [hk] at this
    simpa using this
  obtain ⟨r, hr⟩ := row_head hl hd
  have hn := row_nodup h a
  have hall : ∀ x ∈ S.row a, x = 0 ∨ x = 1 := fun x hx => key x (mem_row.1 hx)
  rw [hr] at hn hall ⊢
  have ha := hall a List.mem_cons_self
  refine ⟨ha, ?_⟩
  rw [List.nodup_cons] at hn
  match r, hn, hall with
  | [], _, _ => exact .inl rfl
  | [b], hn, hall =>
    have hb := hall b (List.mem_cons_of_mem _ List.mem_cons_self)
    have : a ≠ b := fun e => hn.1 (by rw [e]; exact List.mem_cons_self)
    right
    have : b = 1 - a := by omega
    rw [this]
  | b :: c :: r, hn, hall =>
    have hb := hall b (List.mem_cons_of_mem _ List.mem_cons_self)
    have hc := hall c (List.mem_cons_of_mem _ (List.mem_cons_of_mem _ List.mem_cons_self))
    have h1 : a ≠ b := fun e => hn.1 (by rw [e]; exact List.mem_cons_self)
    have h2 : a ≠ c := fun e => hn.1 (by rw [e]; exact List.mem_cons_of_mem _ List.mem_cons_self)
    have h3 : b ≠ c := fun e => (List.nodup_cons.1 hn.2).1 (by rw [e]; exact List.mem_cons_self)
    omega
/-- before the drain. -/
structure Dr (S : Q) : Prop where
  keys : S.lanes.map (·.1) = [0, 1]
  up : ∀ p ∈ S.lanes, p.2.drains = false
  cuts : S.cut + S.packs.length ≤ 8
  few : ∀ k, (wl S.lanes k : Int) ≤ 32 * S.cut
theorem Dr.lane {S : Q} (h : Dr S) {a : Int} (ha : a = 0 ∨ a = 1) : ∃ L, S.lane a = some L ∧ L.drains = false := by
  obtain ⟨L, hL⟩ := look_some_of_key (l := S.lanes) (k := a) (by rw [h.keys]; simpa using ha)
  exact ⟨L, hL, h.up _ (look_mem hL)⟩
theorem Dr.row {S : Q} (h : Dr S) (hok : S.Ok) {a : Int} (ha : a = 0 ∨ a = 1) : S.row a = [a, 1 - a] := by
  obtain ⟨L, hL, hd⟩ := h.lane ha
  obtain ⟨_, hr | hr⟩ := row_two hok h.keys hL hd
  · obtain ⟨L', hL', hd'⟩ := h.lane (a := 1 - a) (by omega)
    have : 1 - a ∈ S.row a := mem_row.2 (mem_free.2 ⟨L', look_mem hL', hd'⟩)
    rw [hr, List.mem_singleton] at this
    omega
  · exact hr
theorem Dr.submit {S : Q} (h : Dr S) (s : ByteArray) (hc : S.cut + S.packs.length < 8) : Dr (S.submitS s) := by
  unfold Q.submitS
  split
  · refine ⟨h.keys, h.up, ?_, h.few⟩
    show S.cut + ((S.packs ++ [s]).length : Int) ≤ 8
    simp
    omega
  · exact h
theorem Dr.dealt {S : Q} (h : Dr S) (hok : S.Ok) {a : Int} (ha : a = 0 ∨ a = 1) {s : ByteArray} {rest : List ByteArray} (hp : S.packs = s :: rest) : Dr (S.dealt a s rest) := by
  have hs := hok.packs s (by rw [hp]; exact List.mem_cons_self)
  obtain ⟨_, _, _, m1, m2⟩ := cut_bd hok hs.1 hs.2
  have hr := h.row hok ha
  obtain ⟨L, hL, _⟩ := h.lane ha
  obtain ⟨L', hL', _⟩ := h.lane (a := 1 - a) (by omega)
  refine ⟨(give_keys _ _ _ _ _).trans h.keys, ?_, ?_, ?_⟩
  · intro p hpp
    obtain ⟨p', hp', _, hd, _⟩ := give_mem hpp
    rw [← hd]
    exact h.up _ hp'
  · show S.cut + 1 + (rest.length : Int) ≤ 8
    have := h.cuts
    rw [hp] at this
    simp at this
    omega
  · intro k
    show (wl (giveN (S.row a) S.cut (S.frag s) S.lanes (S.many s)) k : Int) ≤ 32 * (S.cut + 1)
    rw [hr]
    have hf := h.few k
    obtain ⟨w1, w2⟩ := give_two (a := a) (b := 1 - a) (c := S.cut) (by omega) (S.frag s) (l := S.lanes) (by show (S.lane a).isSome = true; rw [hL]; rfl) (by show (S.lane (1 - a)).isSome = true; rw [hL']; rfl) (S.many s)
    by_cases e1 : k = a
    · rw [e1, w1]
      rw [e1] at hf
      omega
    · by_cases e2 : k = 1 - a
      · rw [e2, w2]
        rw [e2] at hf
        omega
      · have : wl (giveN [a, 1 - a] S.cut (S.frag s) S.lanes (S.many s)) k = 0 := by
          unfold wl
          have : look (giveN [a, 1 - a] S.cut (S.frag s) S.lanes (S.many s)) k = none := by
            rw [look_none]
            intro p hpp e
            have : p.1 ∈ (giveN [a, 1 - a] S.cut (S.frag s) S.lanes (S.many s)).map (·.1) := List.mem_map.2 ⟨p, hpp, rfl⟩
            rw [give_keys, h.keys] at this
            simp at this
            omega
          rw [this]
        rw [this]
        have := hok.cut0
        omega
theorem wl_pop {T : Q} {k : Int} {x : Fr × Int} {ws : List (Fr × Int)} {d : Bool} (hl : T.lane k = some ⟨x :: ws, d⟩) (j : Int) : wl (T.pop k).lanes j + (if j = k then 1 else 0) = wl T.lanes j := by
  have hl' : look T.lanes k = some ⟨x :: ws, d⟩ := hl
  unfold Q.pop
  rw [hl]
  show wl (updL T.lanes k fun L => { L with waits := ws }) j + _ = _
  unfold wl
  rw [look_updL]
  by_cases e : j = k
  · rw [if_pos e, if_pos e, e, hl']
    rfl
  · rw [if_neg e, if_neg e]
    rfl
theorem pop_lanes {T : Q} {k : Int} {x : Fr × Int} {ws : List (Fr × Int)} {d : Bool} (hl : T.lane k = some ⟨x :: ws, d⟩) : (T.pop k).lanes = updL T.lanes k (fun L => { L with waits := ws }) ∧ (T.pop k).packs = T.packs ∧ (T.pop k).cut = T.cut := by
  unfold Q.pop
  rw [hl]
  exact ⟨rfl, rfl, rfl⟩
theorem Dr.pop {T : Q} (h : Dr T) {k : Int} {x : Fr × Int} {ws : List (Fr × Int)} {d : Bool} (hl : T.lane k = some ⟨x :: ws, d⟩) : Dr (T.pop k) := by
  obtain ⟨e1, e2, e3⟩ := pop_lanes hl
  refine ⟨?_, ?_, ?_, fun j => ?_⟩
  · rw [e1, updL_keys]; exact h.keys
  · rw [e1]
    intro p hp
    rcases updL_mem hp with hp | ⟨L, hL, rfl⟩
    · exact h.up p hp
    · exact h.up (k, L) hL
  · rw [e2, e3]; exact h.cuts
  · have := wl_pop hl j
    have := h.few j
    rw [e3]
    omega
theorem Dr.ready {S : Q} (h : Dr S) (hok : S.Ok) {a : Int} (ha : a = 0 ∨ a = 1) : Dr (S.ready a) := by
  unfold Q.ready
  split
  · exact h
  · split
    · unfold Q.deal
      split
      · exact h
      · rename_i hp
        exact h.dealt hok ha hp
    · exact h
theorem Dr.take {S : Q} (h : Dr S) (hok : S.Ok) {a : Int} (ha : a = 0 ∨ a = 1) : Dr (S.takeS a) := by
  unfold Q.takeS
  split
  · rename_i he
    obtain ⟨y, ws, d, hl⟩ := ready_some hok he
    exact (h.ready hok ha).pop hl
  · exact h
/-- behind the drain of d: what the other has still to give. -/
def rest (S : Q) (o : Int) : Nat := wl S.lanes o + 64 * S.packs.length
structure Dd (S : Q) (d : Int) : Prop where
  keys : S.lanes.map (·.1) = [0, 1]
  d01 : d = 0 ∨ d = 1
  down : ∃ L, S.lane d = some L ∧ L.drains = true
  other : ∃ L, S.lane (1 - d) = some L ∧ L.drains = false
theorem Dd.row {S : Q} {d : Int} (h : Dd S d) (hok : S.Ok) : S.row (1 - d) = [1 - d] := by
  obtain ⟨L, hL, hd⟩ := h.other
  obtain ⟨_, hr | hr⟩ := row_two hok h.keys hL hd
  · exact hr
  · exfalso
    have : 1 - (1 - d) ∈ S.row (1 - d) := by rw [hr]; simp
    obtain ⟨L', hL', hd'⟩ := mem_free.1 (mem_row.1 this)
    obtain ⟨L2, hL2, hd2⟩ := h.down
    have e := look_of_mem hok.nodup hL'
    rw [show 1 - (1 - d) = d by omega] at e
    have hL2' : look S.lanes d = some L2 := hL2
    rw [e] at hL2'
    cases hL2'
    rw [hd'] at hd2
    cases hd2
theorem Dr.drain {S : Q} (h : Dr S) {d : Int} (hd : d = 0 ∨ d = 1) : Dd (S.drainS d) d ∧ (∀ k, wl (S.drainS d).lanes k = wl S.lanes k) ∧ S.drainE d = 0 := by
  obtain ⟨L, hL, _⟩ := h.lane hd
  obtain ⟨L', hL', hd'⟩ := h.lane (a := 1 - d) (by omega)
  have hL1 : look S.lanes d = some L := hL
  have hL1' : look S.lanes (1 - d) = some L' := hL'
  have hln : (S.drainS d).lanes = updL S.lanes d (fun L => { L with drains := true }) := rfl
  refine ⟨⟨by rw [hln, updL_keys]; exact h.keys, hd, ⟨{ L with drains := true }, ?_, rfl⟩, ⟨L', ?_, hd'⟩⟩, fun k => ?_, ?_⟩
  · unfold Q.lane
    rw [hln, look_updL, if_pos rfl, hL1]
    rfl
  · unfold Q.lane
    rw [hln, look_updL, if_neg (by omega), hL1']
  · rw [hln]
    unfold wl
    rw [look_updL]
    by_cases e : k = d
    · rw [if_pos e]
      cases look S.lanes k <;> rfl
    · rw [if_neg e]
  · rw [drainE_eq]
    unfold Q.has
    rw [hL]
    rfl
theorem Dd.pop {T : Q} {d : Int} (h : Dd T d) {k : Int} {x : Fr × Int} {ws : List (Fr × Int)} {b : Bool} (hl : T.lane k = some ⟨x :: ws, b⟩) : Dd (T.pop k) d := by
  obtain ⟨e1, _, _⟩ := pop_lanes hl
  have key : ∀ (j : Int) (B : Bool), (∃ L, T.lane j = some L ∧ L.drains = B) → ∃ L, (T.pop k).lane j = some L ∧ L.drains = B := by
    rintro j B ⟨L, hL, hB⟩
    have hL1 : look T.lanes j = some L := hL
    unfold Q.lane
    rw [e1, look_updL, hL1]
    split
    · exact ⟨_, rfl, hB⟩
    · exact ⟨_, rfl, hB⟩
  exact ⟨by rw [e1, updL_keys]; exact h.keys, h.d01, key _ _ h.down, key _ _ h.other⟩
theorem give_lane {l : List (Int × Lane)} (hn : (l.map (·.1)).Nodup) (row : List Int) (c : Int) (F : Nat → Fr) (n : Nat) {k : Int} {L : Lane} (h : look l k = some L) : ∃ L', look (giveN row c F l n) k = some L' ∧ L'.drains = L.drains := by
  have hs := give_some row c F l k n
  rw [h] at hs
  obtain ⟨L', hL'⟩ := Option.isSome_iff_exists.1 hs
  refine ⟨L', hL', ?_⟩
  obtain ⟨p', hp', e1, e2, _⟩ := give_mem (look_mem hL')
  have := look_of_mem hn hp'
  rw [e1, h] at this
  rw [← e2, Option.some.inj this]
theorem Dd.dealt {S : Q} {d : Int} (h : Dd S d) (hok : S.Ok) (s : ByteArray) (r : List ByteArray) : Dd (S.dealt (1 - d) s r) d := by
  obtain ⟨L, hL, hd⟩ := h.down
  obtain ⟨L2, hL2, hd2⟩ := h.other
  obtain ⟨A, hA, hA2⟩ := give_lane hok.nodup (S.row (1 - d)) S.cut (S.frag s) (S.many s) hL
  obtain ⟨B, hB, hB2⟩ := give_lane hok.nodup (S.row (1 - d)) S.cut (S.frag s) (S.many s) hL2
  exact ⟨(give_keys _ _ _ _ _).trans h.keys, h.d01, ⟨A, hA, hA2.trans hd⟩, ⟨B, hB, hB2.trans hd2⟩⟩
theorem wl_of {S : Q} {k : Int} {L : Lane} (h : S.lane k = some L) : wl S.lanes k = L.waits.length := by
  unfold wl
  have : look S.lanes k = some L := h
  rw [this]
theorem Dd.takeO {S : Q} {d : Int} (h : Dd S d) (hok : S.Ok) : Dd (S.takeS (1 - d)) d ∧ wl (S.takeS (1 - d)).lanes d = wl S.lanes d ∧ (rest (S.takeS (1 - d)) (1 - d) + 1 ≤ rest S (1 - d) ∨ rest (S.takeS (1 - d)) (1 - d) = 0) := by
  obtain ⟨L, hL, hd⟩ := h.other
  have hdo : d ≠ 1 - d := by have := h.d01; omega
  by_cases he : S.takeE (1 - d) = 0
  · obtain ⟨y, ws, b, hl⟩ := ready_some hok he
    rw [takeS_zero he]
    by_cases hw : L.waits = []
    · cases hp : S.packs with
      | nil =>
        have : S.takeE (1 - d) = 2003 := by
          unfold Q.takeE
          rw [hL]
          simp only
          rw [if_pos ⟨hw, .inr hp⟩]
        omega
      | cons s r =>
        have hrd : S.ready (1 - d) = S.dealt (1 - d) s r := by
          unfold Q.ready
          rw [hL]
          simp only
          rw [if_pos hw]
          unfold Q.deal
          rw [hp]
        rw [hrd] at hl ⊢
        have hs := hok.packs s (by rw [hp]; exact List.mem_cons_self)
        obtain ⟨_, _, _, m1, m2⟩ := cut_bd hok hs.1 hs.2
        have hg : ∀ k, wl (S.dealt (1 - d) s r).lanes k = wl S.lanes k + if k = 1 - d then S.many s else 0 := by
          intro k
          show wl (giveN (S.row (1 - d)) S.cut (S.frag s) S.lanes (S.many s)) k = _
          rw [h.row hok]
          exact give_one (S.frag s) (by show (S.lane (1 - d)).isSome = true; rw [hL]; rfl) k _
        have hpd := wl_pop hl d
        have hpo := wl_pop hl (1 - d)
        have g1 := hg d
        have g2 := hg (1 - d)
        rw [if_neg hdo] at hpd g1
        rw [if_pos rfl] at hpo g2
        have hwl : wl S.lanes (1 - d) = 0 := by rw [wl_of hL, hw]; rfl
        obtain ⟨_, e2, _⟩ := pop_lanes hl
        have e3 : (S.dealt (1 - d) s r).packs = r := rfl
        refine ⟨(h.dealt hok s r).pop hl, by omega, .inl ?_⟩
        unfold rest
        rw [e2, e3, hp]
        simp only [List.length_cons]
        omega
    · have hrd : S.ready (1 - d) = S := by
        unfold Q.ready
        rw [hL]
        simp only
        rw [if_neg hw]
      rw [hrd] at hl ⊢
      have hpd := wl_pop hl d
      have hpo := wl_pop hl (1 - d)
      rw [if_neg hdo] at hpd
      rw [if_pos rfl] at hpo
      obtain ⟨_, e2, _⟩ := pop_lanes hl
      refine ⟨h.pop hl, by omega, .inl ?_⟩
      unfold rest
      rw [e2]
      omega
  · rw [takeS_bad he]
    refine ⟨h, rfl, .inr ?_⟩
    unfold Q.takeE at he
    rw [hL] at he
    simp only at he
    by_cases hw : L.waits = [] ∧ (L.drains = true ∨ S.packs = [])
    · obtain ⟨h1, h2⟩ := hw
      rw [hd] at h2
      have h3 : S.packs = [] := by
        rcases h2 with h2 | h2
        · cases h2
        · exact h2
      unfold rest
      rw [wl_of hL, h1, h3]
      rfl
    · rw [if_neg hw] at he
      exact absurd rfl he
theorem Dd.takeD {S : Q} {d : Int} (h : Dd S d) (hok : S.Ok) (hw : 0 < wl S.lanes d) : S.takeE d = 0 ∧ Dd (S.takeS d) d ∧ wl (S.takeS d).lanes d + 1 = wl S.lanes d ∧ rest (S.takeS d) (1 - d) = rest S (1 - d) := by
  obtain ⟨L, hL, _⟩ := h.down
  have hdo : 1 - d ≠ d := by have := h.d01; omega
  have hne : L.waits ≠ [] := fun e => by rw [wl_of hL, e] at hw; exact absurd hw (by decide)
  have he : S.takeE d = 0 := by
    unfold Q.takeE
    rw [hL]
    simp only
    rw [if_neg (fun c => hne c.1)]
  have hrd : S.ready d = S := by
    unfold Q.ready
    rw [hL]
    simp only
    rw [if_neg hne]
  obtain ⟨y, ws, b, hl⟩ := ready_some hok he
  rw [takeS_zero he]
  rw [hrd] at hl ⊢
  have hpd := wl_pop hl d
  have hpo := wl_pop hl (1 - d)
  rw [if_pos rfl] at hpd
  rw [if_neg hdo] at hpo
  obtain ⟨_, e2, _⟩ := pop_lanes hl
  refine ⟨he, h.pop hl, hpd, ?_⟩
  unfold rest
  rw [e2]
  omega
/-- behind the loop: nothing left. -/
theorem Dd.done {S : Q} {d : Int} (h : Dd S d) (hok : S.Ok) (hw : wl S.lanes d = 0) (hr : rest S (1 - d) = 0) : S.takeE d = 2003 ∧ S.takeS d = S ∧ S.dropE d = 0 ∧ (S.dropS d).len = 0 := by
  obtain ⟨L, hL, hd⟩ := h.down
  obtain ⟨L2, hL2, _⟩ := h.other
  have h1 : L.waits = [] := List.eq_nil_of_length_eq_zero (by rw [← wl_of hL]; exact hw)
  unfold rest at hr
  have h2 : L2.waits = [] := List.eq_nil_of_length_eq_zero (by rw [← wl_of hL2]; omega)
  have h3 : S.packs = [] := List.eq_nil_of_length_eq_zero (by omega)
  have he : S.takeE d = 2003 := by
    unfold Q.takeE
    rw [hL]
    simp only
    rw [if_pos ⟨h1, .inl hd⟩]
  have hde : S.dropE d = 0 := by
    unfold Q.dropE
    rw [hL]
    simp only
    rw [if_pos h1]
  refine ⟨he, takeS_bad (by rw [he]; decide), hde, ?_⟩
  have hcnt : ∀ c, cnt S.lanes c = 0 := by
    intro c
    rcases Nat.eq_zero_or_pos (cnt S.lanes c) with e | e
    · exact e
    · exfalso
      have hz : ∀ p ∈ S.lanes, p.2.waits = [] := by
        intro p hp
        have hm : p.1 ∈ S.lanes.map (·.1) := List.mem_map.2 ⟨p, hp, rfl⟩
        rw [h.keys] at hm
        have hl := look_of_mem hok.nodup hp
        have h01 := h.d01
        have : p.1 = d ∨ p.1 = 1 - d := by simp at hm; omega
        rcases this with e | e
        · rw [e] at hl
          have hL' : look S.lanes d = some L := hL
          rw [hL'] at hl
          rw [← Option.some.inj hl]; exact h1
        · rw [e] at hl
          have hL' : look S.lanes (1 - d) = some L2 := hL2
          rw [hL'] at hl
          rw [← Option.some.inj hl]; exact h2
      unfold cnt at e
      have : (S.lanes.map fun p => cntW p.2.waits c) = S.lanes.map fun _ => 0 := List.map_congr_left (fun p hp => by rw [hz p hp]; rfl)
      have hz0 : ∀ l : List (Int × Lane), (l.map fun _ => (0 : Nat)).sum = 0 := by
        intro l
        induction l with
        | nil => rfl
        | cons a l ih => rw [List.map_cons, List.sum_cons, ih]
      rw [this, hz0] at e
      omega
  have ho : S.opn = [] := by
    cases hq : S.opn with
    | nil => rfl
    | cons p r =>
      exfalso
      have := hok.opn p.1
      rw [hcnt, if_neg (by omega), hq, look_cons, if_pos rfl] at this
      cases this
  unfold Q.dropS
  rw [if_pos hde]
  show S.packs.length + S.opn.length = 0
  rw [h3, ho]
  rfl
def startQ (sz : Int) : Q := ((Q.new sz false).addS 0).addS 1
theorem start_eq (sz : Int) : startQ sz = ⟨sz, false, 0, [], 0, [], [(0, ⟨[], false⟩), (1, ⟨[], false⟩)]⟩ := rfl
theorem Dr.start (sz : Int) : Dr (startQ sz) ∧ (startQ sz).cut + (startQ sz).packs.length ≤ 0 := by
  rw [start_eq]
  refine ⟨⟨rfl, ?_, by simp, fun k => ?_⟩, by simp⟩
  · intro p hp
    simp at hp
    rcases hp with rfl | rfl <;> rfl
  · unfold wl
    simp only [look_cons, look_nil]
    split
    · rename_i h
      split at h
      · cases h; simp
      · split at h
        · cases h; simp
        · cases h
    · simp
theorem waits_wl (S : Q) (k : Int) : S.waits k = wl S.lanes k := by
  unfold Q.waits wl Q.lane
  cases look S.lanes k <;> rfl
theorem submit_len (S : Q) (s : ByteArray) {t : Int} (h : S.cut + S.packs.length ≤ t) : (S.submitS s).cut + (S.submitS s).packs.length ≤ t + 1 := by
  unfold Q.submitS
  split
  · show S.cut + ((S.packs ++ [s]).length : Int) ≤ t + 1
    simp
    omega
  · omega
theorem Dd.dropE {S : Q} {d : Int} (h : Dd S d) : S.dropE d = if wl S.lanes d = 0 then 0 else 2003 := by
  obtain ⟨L, hL, _⟩ := h.down
  rw [wl_of hL]
  unfold Q.dropE
  rw [hL]
  simp only [List.length_eq_zero_iff]
theorem Dd.gone {S : Q} {d : Int} (h : Dd S d) (hw : wl S.lanes d = 0) : (S.dropS d).takeE d = 2002 := by
  have he : S.dropE d = 0 := by rw [h.dropE, if_pos hw]
  unfold Q.takeE Q.lane Q.dropS
  rw [if_pos he]
  simp only
  rw [look_strike, if_pos rfl]
theorem Dr.left {S : Q} (h : Dr S) (k : Int) : wl S.lanes k ≤ 256 := by
  have := h.few k
  have := h.cuts
  omega
theorem Dr.rest {S : Q} (h : Dr S) (hok : S.Ok) (d k : Int) : Plain.rest (S.drainS d) k ≤ 512 := by
  have h1 := h.few k
  have h2 := h.cuts
  have h3 : wl (S.drainS d).lanes k = wl S.lanes k := by
    have hln : (S.drainS d).lanes = updL S.lanes d (fun L => { L with drains := true }) := rfl
    rw [hln]
    unfold wl
    rw [look_updL]
    by_cases e : k = d
    · rw [if_pos e]
      cases look S.lanes k <;> rfl
    · rw [if_neg e]
  have h4 := hok.cut0
  have h5 : (S.drainS d).packs = S.packs := rfl
  unfold Plain.rest
  rw [h3, h5]
  omega
end Plain
end Go.Proofs.Ytjcndeanojeffaa

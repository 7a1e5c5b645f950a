/- The plain mathematics of chapter 20, second part: what each call keeps. -/
import Derived.Test.YtjcndeanojeffaaPlain
namespace Go.Proofs.Ytjcndeanojeffaa
namespace Plain
open Go

theorem ring_bd (b : Bool) : 4096 ≤ ring b ∧ ring b ≤ 16777216 := by cases b <;> simp [ring]
theorem new_ok (size : Int) (short : Bool) (h0 : 1 ≤ size) (h1 : size ≤ 1500) : (Q.new size short).Ok := by
  have := ring_bd short
  refine ⟨h0, h1, by simp [Q.new], by show 0 < ring short; omega, by simp [Q.new], by simp [Q.new], by simp [Q.new], by simp [Q.new], by simp [Q.new], by simp [Q.new], by simp [Q.new], by simp [Q.new], by simp [Q.new], by simp [Q.new], ?_, by simp [Q.new]⟩
  intro c
  rfl
theorem lane_mem {S : Q} {k : Int} {L : Lane} (h : S.lane k = some L) : (k, L) ∈ S.lanes := look_mem h
theorem lane_none {S : Q} {k : Int} (h : S.lane k = none) : ∀ p ∈ S.lanes, p.1 ≠ k := look_none.1 h

theorem addS_ok {S : Q} (h : S.Ok) (k : Int) (hk : k ≤ 9223372036854775807) : (S.addS k).Ok := by
  unfold Q.addS
  split
  · rename_i he
    unfold Q.addE at he
    split at he
    · cases he
    · rename_i h1
      split at he
      · cases he
      · rename_i h2
        have hl : S.lane k = none := by
          cases hh : S.lane k with
          | none => rfl
          | some L => exact absurd (.inr (by rw [hh]; rfl)) h1
        have hk0 : 0 ≤ k := by
          have : ¬ k < 0 := fun e => h1 (.inl e)
          omega
        refine ⟨h.size0, h.size1, h.seq0, h.seq1, h.packs, h.len64, ?_, ?_, ?_, h.cut0, h.cut1, ?_, ?_, h.opnd, ?_, h.opv⟩
        · dsimp only
          rw [List.map_append, List.nodup_append]
          refine ⟨h.nodup, by simp, fun a ha b hb e => ?_⟩
          obtain ⟨p, hp, rfl⟩ := List.mem_map.1 ha
          simp at hb
          exact lane_none hl p hp (e.trans hb)
        · intro p hp
          rcases List.mem_append.1 hp with hp | hp
          · exact h.keys p hp
          · have : p = (k, (⟨[], false⟩ : Lane)) := by simpa using hp
            subst this
            exact ⟨hk0, hk⟩
        · show (S.lanes ++ [(k, (⟨[], false⟩ : Lane))]).length ≤ 8
          simp; omega
        · intro p hp
          rcases List.mem_append.1 hp with hp | hp
          · exact h.waits p hp
          · have : p = (k, (⟨[], false⟩ : Lane)) := by simpa using hp
            subst this
            have := h.cut0
            show (0 : Int) ≤ 64 * S.cut
            omega
        · intro p hp
          rcases List.mem_append.1 hp with hp | hp
          · exact h.nums p hp
          · have : p = (k, (⟨[], false⟩ : Lane)) := by simpa using hp
            subst this
            intro x hx
            cases hx
        · intro c
          show look S.opn c = if 0 < cnt (S.lanes ++ [(k, (⟨[], false⟩ : Lane))]) c then some (cnt (S.lanes ++ [(k, (⟨[], false⟩ : Lane))]) c : Int) else none
          rw [cnt_append]
          have : cnt [(k, (⟨[], false⟩ : Lane))] c = 0 := rfl
          rw [this, Nat.add_zero]
          exact h.opn c
  · exact h
theorem cnt_drains (l : List (Int × Lane)) (k : Int) (c : Int) : cnt (updL l k fun L => { L with drains := true }) c = cnt l c := by
  unfold cnt updL
  rw [List.map_map]
  congr 1
  refine List.map_congr_left (fun p _ => ?_)
  show cntW (if p.1 = k then (p.1, { p.2 with drains := true }) else p).2.waits c = _
  split <;> rfl
theorem drainS_ok {S : Q} (h : S.Ok) (k : Int) : (S.drainS k).Ok := by
  have key : ∀ p ∈ (S.drainS k).lanes, ∃ p' ∈ S.lanes, p'.1 = p.1 ∧ p'.2.waits = p.2.waits := by
    intro p hp
    rcases updL_mem (show p ∈ updL S.lanes k (fun L => { L with drains := true }) from hp) with hq | ⟨L, hq, rfl⟩
    · exact ⟨p, hq, rfl, rfl⟩
    · exact ⟨_, hq, rfl, rfl⟩
  refine ⟨h.size0, h.size1, h.seq0, h.seq1, h.packs, h.len64, ?_, ?_, ?_, h.cut0, h.cut1, ?_, ?_, h.opnd, ?_, h.opv⟩
  · dsimp only [Q.drainS]
    rw [updL_keys]; exact h.nodup
  · intro p hp
    obtain ⟨p', a, b, _⟩ := key p hp
    rw [← b]; exact h.keys p' a
  · dsimp only [Q.drainS]
    rw [updL_length]; exact h.lanes8
  · intro p hp
    obtain ⟨p', a, _, b⟩ := key p hp
    rw [← b]; exact h.waits p' a
  · intro p hp x hx
    obtain ⟨p', a, _, b⟩ := key p hp
    rw [← b] at hx
    exact h.nums p' a x hx
  · intro c
    have e : cnt (S.drainS k).lanes c = cnt S.lanes c := cnt_drains S.lanes k c
    rw [show (S.drainS k).opn = S.opn from rfl, e]
    exact h.opn c
theorem dropS_ok {S : Q} (h : S.Ok) (k : Int) : (S.dropS k).Ok := by
  unfold Q.dropS
  split
  · rename_i he
    unfold Q.dropE at he
    cases hl : S.lane k with
    | none => rw [hl] at he; cases he
    | some L =>
      rw [hl] at he
      simp only at he
      split at he
      · rename_i hw
        refine ⟨h.size0, h.size1, h.seq0, h.seq1, h.packs, h.len64, strike_nodup h.nodup k, fun p hp => h.keys p (strike_mem.1 hp).1, ?_, h.cut0, h.cut1, fun p hp => h.waits p (strike_mem.1 hp).1, fun p hp => h.nums p (strike_mem.1 hp).1, h.opnd, ?_, h.opv⟩
        · have := h.lanes8
          have h2 : (strike S.lanes k).length ≤ S.lanes.length := List.length_filter_le _ _
          exact Nat.le_trans h2 this
        · intro c
          show look S.opn c = if 0 < cnt (strike S.lanes k) c then some (cnt (strike S.lanes k) c : Int) else none
          rw [cnt_strike h.nodup hl hw]
          exact h.opn c
      · cases he
  · exact h
theorem submitS_ok {S : Q} (h : S.Ok) (s : ByteArray) (hc : S.cut + S.packs.length < 1000000) : (S.submitS s).Ok := by
  unfold Q.submitS
  split
  · rename_i he
    unfold Q.submitE at he
    split at he
    · cases he
    · rename_i h1
      split at he
      · cases he
      · rename_i h2
        unfold Q.len at h2
        refine ⟨h.size0, h.size1, h.seq0, h.seq1, ?_, ?_, h.nodup, h.keys, h.lanes8, h.cut0, ?_, h.waits, h.nums, h.opnd, h.opn, h.opv⟩
        · intro x hx
          rcases List.mem_append.1 hx with hx | hx
          · exact h.packs x hx
          · have : x = s := by simpa using hx
            subst this
            omega
        · show (S.packs ++ [s]).length + S.opn.length ≤ 64
          simp; omega
        · show S.cut + ((S.packs ++ [s]).length : Int) ≤ 1000000
          simp; omega
  · exact h

/-! the row -/
theorem mem_free {S : Q} {x : Int} : x ∈ S.free ↔ ∃ L, (x, L) ∈ S.lanes ∧ L.drains = false := by
  unfold Q.free
  rw [List.mem_map]
  constructor
  · rintro ⟨p, hp, rfl⟩
    obtain ⟨a, b⟩ := List.mem_filter.1 hp
    exact ⟨p.2, a, by simpa using b⟩
  · rintro ⟨L, a, b⟩
    exact ⟨_, List.mem_filter.2 ⟨a, by simp [b]⟩, rfl⟩
theorem free_nodup {S : Q} (h : S.Ok) : S.free.Nodup := h.nodup.sublist (List.filter_sublist.map _)
theorem mem_row {S : Q} {link x : Int} : x ∈ S.row link ↔ x ∈ S.free := by
  unfold Q.row
  rw [List.mem_append, mem_sortL, mem_sortL, List.mem_filter, List.mem_filter]
  constructor
  · rintro (⟨a, _⟩ | ⟨a, _⟩) <;> exact a
  · intro a
    by_cases c : x < link
    · exact .inr ⟨a, by simpa using c⟩
    · exact .inl ⟨a, by simpa using c⟩
theorem row_length {S : Q} (h : S.Ok) (link : Int) : (S.row link).length ≤ 8 := by
  have hf := free_nodup h
  unfold Q.row
  rw [List.length_append, sortL_length (hf.filter _), sortL_length (hf.filter _)]
  have h1 : ∀ l : List Int, (l.filter fun k => !decide (k < link)).length + (l.filter fun k => decide (k < link)).length = l.length := by
    intro l
    induction l with
    | nil => rfl
    | cons a l ih =>
      rw [List.filter_cons, List.filter_cons]
      by_cases c : a < link
      · rw [if_neg (by simp; exact c), if_pos (by simpa using c)]
        simp only [List.length_cons]; omega
      · rw [if_pos (by simpa using c), if_neg (by simp; omega)]
        simp only [List.length_cons]; omega
  rw [h1]
  have h2 : S.free.length ≤ S.lanes.length := by
    unfold Q.free
    rw [List.length_map]
    exact List.length_filter_le _ _
  have := h.lanes8
  omega
/-- the one that asks is the first. -/
theorem row_head {S : Q} {link : Int} {L : Lane} (hl : S.lane link = some L) (hd : L.drains = false) : ∃ r, S.row link = link :: r := by
  have hm : link ∈ S.free.filter fun k => !decide (k < link) := List.mem_filter.2 ⟨mem_free.2 ⟨L, lane_mem hl, hd⟩, by simp⟩
  have hu := sortL_up (S.free.filter fun k => !decide (k < link))
  have hm2 : link ∈ sortL (S.free.filter fun k => !decide (k < link)) := mem_sortL.2 hm
  have hge : ∀ x ∈ sortL (S.free.filter fun k => !decide (k < link)), link ≤ x := by
    intro x hx
    have := (List.mem_filter.1 (mem_sortL.1 hx)).2
    simp at this
    exact this
  unfold Q.row
  generalize sortL (S.free.filter fun k => !decide (k < link)) = a at *
  cases a with
  | nil => cases hm2
  | cons x a =>
    have h1 := hge x List.mem_cons_self
    rcases List.mem_cons.1 hm2 with e | e
    · subst e
      exact ⟨_, rfl⟩
    · have := (List.pairwise_cons.1 hu).1 link e
      omega

/-! dealing -/
theorem give_keys (row : List Int) (c : Int) (F : Nat → Fr) (l : List (Int × Lane)) : ∀ i, (giveN row c F l i).map (·.1) = l.map (·.1)
  | 0 => rfl
  | i + 1 => by
    unfold giveN
    rw [updL_keys, give_keys row c F l i]
theorem give_mem {row : List Int} {c : Int} {F : Nat → Fr} {l : List (Int × Lane)} : ∀ {i : Nat} {p : Int × Lane}, p ∈ giveN row c F l i →
    ∃ p' ∈ l, p'.1 = p.1 ∧ p'.2.drains = p.2.drains ∧ p.2.waits.length ≤ p'.2.waits.length + i ∧ ∀ x ∈ p.2.waits, x ∈ p'.2.waits ∨ x.2 = c
  | 0, p, h => ⟨p, h, rfl, rfl, Nat.le_refl _, fun x hx => .inl hx⟩
  | i + 1, p, h => by
    unfold giveN at h
    rcases updL_mem h with hq | ⟨L, hq, rfl⟩
    · obtain ⟨p', a, b, b2, d, e⟩ := give_mem hq
      exact ⟨p', a, b, b2, by omega, e⟩
    · obtain ⟨p', a, b, b2, d, e⟩ := give_mem hq
      refine ⟨p', a, b, b2, ?_, ?_⟩
      · simp only [List.length_append, List.length_cons, List.length_nil] at d ⊢
        omega
      · intro x hx
        rcases List.mem_append.1 hx with hx | hx
        · exact e x hx
        · right
          have : x = (F i, c) := by simpa using hx
          rw [this]
theorem look_some_of_key {l : List (Int × Lane)} {k : Int} (h : k ∈ l.map (·.1)) : ∃ L, look l k = some L := by
  cases hl : look l k with
  | some L => exact ⟨L, rfl⟩
  | none =>
    obtain ⟨p, hp, rfl⟩ := List.mem_map.1 h
    exact absurd rfl (look_none.1 hl p hp)
theorem row_at_mem {row : List Int} (hr : row ≠ []) (i : Nat) : row.getD (i % row.length) 0 ∈ row := by
  have hpos : 0 < row.length := List.length_pos_iff.2 hr
  have hlt := Nat.mod_lt i hpos
  rw [List.getD_eq_getElem?_getD, List.getElem?_eq_getElem hlt]
  exact List.getElem_mem hlt
theorem give_cnt {row : List Int} {c : Int} {F : Nat → Fr} {l : List (Int × Lane)} (hn : (l.map (·.1)).Nodup) (hr : row ≠ []) (hk : ∀ x ∈ row, x ∈ l.map (·.1)) (d : Int) :
    ∀ i, cnt (giveN row c F l i) d = cnt l d + if d = c then i else 0
  | 0 => by
    show cnt l d = _
    split <;> omega
  | i + 1 => by
    have ih := give_cnt hn hr hk d i (c := c) (F := F)
    obtain ⟨L, hL⟩ := look_some_of_key (l := giveN row c F l i) (k := row.getD (i % row.length) 0) (by rw [give_keys]; exact hk _ (row_at_mem hr i))
    have h1 := cnt_updL (g := fun L => { L with waits := L.waits ++ [(F i, c)] }) (by rw [give_keys]; exact hn) hL d
    simp only [cntW_snoc] at h1
    show cnt (updL _ _ _) d = _
    by_cases e : d = c
    · rw [if_pos e] at h1 ih ⊢; omega
    · rw [if_neg e] at h1 ih ⊢; omega
theorem cut_bd {S : Q} (h : S.Ok) {s : ByteArray} (h1 : 1 ≤ s.size) (h2 : s.size ≤ 1500) : 1 ≤ S.cutSize s ∧ S.cutSize s ≤ 1500 ∧ s.size ≤ 64 * (S.cutSize s).toNat ∧ 1 ≤ S.many s ∧ S.many s ≤ 64 := by
  have a := h.size0
  have b := h.size1
  have hk : 1 ≤ S.cutSize s ∧ S.cutSize s ≤ 1500 ∧ (s.size : Int) ≤ 64 * S.cutSize s := by unfold Q.cutSize; omega
  refine ⟨hk.1, hk.2.1, by omega, ?_⟩
  unfold Q.many
  obtain ⟨k, hkk⟩ : ∃ k : Nat, (S.cutSize s).toNat = k := ⟨_, rfl⟩
  rw [hkk]
  have hk1 : 1 ≤ k := by omega
  have hk2 : s.size ≤ 64 * k := by omega
  constructor
  · rw [Nat.le_div_iff_mul_le (by omega)]
    omega
  · have : (s.size + k - 1) / k < 65 := by
      rw [Nat.div_lt_iff_lt_mul (by omega)]
      omega
    omega
theorem many_cuts (S : Q) (s : ByteArray) (h : 1 ≤ S.cutSize s) : Cuts s.size (fun _ => S.cutSize s) 1 (S.many s) := cuts_one s.size (S.cutSize s) h
theorem dealt_ok {S : Q} (h : S.Ok) {link : Int} {s : ByteArray} {rest : List ByteArray} (hp : S.packs = s :: rest) (hr : S.row link ≠ []) : (S.dealt link s rest).Ok := by
  have hs := h.packs s (by rw [hp]; exact List.mem_cons_self)
  obtain ⟨_, _, _, m1, m2⟩ := cut_bd h hs.1 hs.2
  have hc1 := h.cut1
  rw [hp, List.length_cons] at hc1
  have hc0 := h.cut0
  have hrb := ring_bd S.short
  have hz : cnt S.lanes S.cut = 0 := by
    rcases Nat.eq_zero_or_pos (cnt S.lanes S.cut) with e | e
    · exact e
    · exfalso
      have : ∀ l : List (Int × Lane), (∀ p ∈ l, ∀ x ∈ p.2.waits, x.2 < S.cut) → cnt l S.cut = 0 := by
        intro l
        induction l with
        | nil => intro _; rfl
        | cons a l ih =>
          intro hl
          rw [cnt_cons, ih (fun p hp => hl p (List.mem_cons_of_mem _ hp))]
          have : a.2.waits.filter (fun x => x.2 == S.cut) = [] := by
            rw [List.filter_eq_nil_iff]
            intro x hx
            have := hl a List.mem_cons_self x hx
            simp
            omega
          unfold cntW
          rw [this]
          rfl
      have := this S.lanes (fun p hp x hx => (h.nums p hp x hx).2)
      omega
  have hln : look S.opn S.cut = none := by rw [h.opn, hz]; rfl
  have hkeys : ∀ x ∈ S.row link, x ∈ S.lanes.map (·.1) := by
    intro x hx
    obtain ⟨L, a, _⟩ := mem_free.1 (mem_row.1 hx)
    exact List.mem_map.2 ⟨_, a, rfl⟩
  refine ⟨h.size0, h.size1, ?_, ?_, ?_, ?_, ?_, ?_, ?_, by show 0 ≤ S.cut + 1; omega, ?_, ?_, ?_, putL_nodup h.opnd _ _, ?_, ?_⟩
  · exact Int.emod_nonneg _ (by omega)
  · exact Int.emod_lt_of_pos _ (by omega)
  · intro x hx
    exact h.packs x (by rw [hp]; exact List.mem_cons_of_mem _ hx)
  · show rest.length + (putL S.opn S.cut (S.many s : Int)).length ≤ 64
    rw [putL_length, hln]
    have := h.len64
    rw [hp, List.length_cons] at this
    simp
    omega
  · show ((giveN _ _ _ _ _).map (·.1)).Nodup
    rw [give_keys]; exact h.nodup
  · intro p hp'
    obtain ⟨p', a, b, _⟩ := give_mem hp'
    rw [← b]; exact h.keys p' a
  · have := congrArg List.length (give_keys (S.row link) S.cut (S.frag s) S.lanes (S.many s))
    rw [List.length_map, List.length_map] at this
    show (giveN _ _ _ _ _).length ≤ 8
    rw [this]; exact h.lanes8
  · show S.cut + 1 + (rest.length : Int) ≤ 1000000
    omega
  · intro p hp'
    obtain ⟨p', a, _, _, b, _⟩ := give_mem hp'
    have := h.waits p' a
    show (p.2.waits.length : Int) ≤ 64 * (S.cut + 1)
    omega
  · intro p hp' x hx
    obtain ⟨p', a, _, _, _, b⟩ := give_mem hp'
    show 0 ≤ x.2 ∧ x.2 < S.cut + 1
    rcases b x hx with b | b
    · have := h.nums p' a x b
      omega
    · omega
  · intro c
    show look (putL S.opn S.cut (S.many s : Int)) c = if 0 < cnt (giveN _ _ _ _ _) c then some (cnt (giveN _ _ _ _ _) c : Int) else none
    rw [look_putL, give_cnt h.nodup hr hkeys]
    by_cases e : c = S.cut
    · rw [if_pos e, if_pos e, e, hz, if_pos (by omega)]
      simp
    · rw [if_neg e, if_neg e, Nat.add_zero]
      exact h.opn c
  · intro p hp'
    rcases putL_mem hp' with hp' | hp'
    · exact h.opv p hp'
    · subst hp'
      show (S.many s : Int) ≤ 64
      omega

/-! taking -/
theorem pop_ok {T : Q} (h : T.Ok) (k : Int) : (T.pop k).Ok := by
  unfold Q.pop
  cases hl : T.lane k with
  | none => exact h
  | some L =>
    obtain ⟨ws, d⟩ := L
    cases ws with
    | nil => exact h
    | cons x ws =>
      simp only
      have hm := lane_mem hl
      have hx := h.nums _ hm x List.mem_cons_self
      have hpos : 0 < cnt T.lanes x.2 := cnt_pos hm List.mem_cons_self rfl
      have hlook : look T.opn x.2 = some (cnt T.lanes x.2 : Int) := by rw [h.opn, if_pos hpos]
      have hcnt : ∀ c, cnt (updL T.lanes k fun L => { L with waits := ws }) c + (if c = x.2 then 1 else 0) = cnt T.lanes c := by
        intro c
        have h1 := cnt_updL (g := fun L => { L with waits := ws }) h.nodup hl c
        have h2 : cntW (x :: ws) c = cntW ws c + if c = x.2 then 1 else 0 := by
          unfold cntW
          rw [List.filter_cons]
          by_cases e : c = x.2
          · rw [if_pos (by simp [e]), if_pos e, List.length_cons]
          · rw [if_neg (by simp; exact fun e' => e e'.symm), if_neg e, Nat.add_zero]
        have h3 : cntW (⟨x :: ws, d⟩ : Lane).waits c = cntW (x :: ws) c := rfl
        have h4 : cntW ((fun L : Lane => ({ L with waits := ws } : Lane)) ⟨x :: ws, d⟩).waits c = cntW ws c := rfl
        rw [h3, h4] at h1
        omega
      have hkey : ∀ p ∈ updL T.lanes k (fun L => { L with waits := ws }), ∃ p' ∈ T.lanes, p'.1 = p.1 ∧ p.2.waits.length ≤ p'.2.waits.length ∧ ∀ y ∈ p.2.waits, y ∈ p'.2.waits := by
        intro p hp
        rcases updL_mem hp with hq | ⟨L, hq, rfl⟩
        · exact ⟨p, hq, rfl, Nat.le_refl _, fun y hy => hy⟩
        · have e : L = ⟨x :: ws, d⟩ := by
            have h1 := look_of_mem h.nodup hq
            have h2 : look T.lanes k = some ⟨x :: ws, d⟩ := hl
            rw [h2] at h1
            exact (Option.some.inj h1).symm
          subst e
          exact ⟨_, hq, rfl, by simp, fun y hy => List.mem_cons_of_mem _ hy⟩
      have hdl : ∀ c, look (decO T.opn x.2) c = if c = x.2 then (if cnt T.lanes x.2 = 1 then none else some ((cnt T.lanes x.2 : Int) - 1)) else look T.opn c := by
        intro c
        unfold decO
        rw [hlook]
        simp only [Option.getD_some]
        by_cases e1 : cnt T.lanes x.2 = 1
        · rw [if_pos (by omega), look_strike]
          by_cases e : c = x.2
          · rw [if_pos e, if_pos e, if_pos e1]
          · rw [if_neg e, if_neg e, look_putL, if_neg e]
        · rw [if_neg (by omega), look_putL]
          by_cases e : c = x.2
          · rw [if_pos e, if_pos e, if_neg e1]
          · rw [if_neg e, if_neg e]
      refine ⟨h.size0, h.size1, h.seq0, h.seq1, h.packs, ?_, ?_, ?_, ?_, h.cut0, h.cut1, ?_, ?_, ?_, ?_, ?_⟩
      · show T.packs.length + (decO T.opn x.2).length ≤ 64
        have hle : (decO T.opn x.2).length ≤ T.opn.length := by
          unfold decO
          have hp : (putL T.opn x.2 ((look T.opn x.2).getD 0 - 1)).length = T.opn.length := by rw [putL_length, hlook]; rfl
          split
          · have h2 : (strike (putL T.opn x.2 ((look T.opn x.2).getD 0 - 1)) x.2).length ≤ (putL T.opn x.2 ((look T.opn x.2).getD 0 - 1)).length := List.length_filter_le _ _
            omega
          · omega
        have := h.len64
        omega
      · dsimp only
        rw [updL_keys]; exact h.nodup
      · intro p hp
        obtain ⟨p', a, b, _⟩ := hkey p hp
        rw [← b]; exact h.keys p' a
      · dsimp only
        rw [updL_length]; exact h.lanes8
      · intro p hp
        obtain ⟨p', a, _, b, _⟩ := hkey p hp
        have := h.waits p' a
        show (p.2.waits.length : Int) ≤ 64 * T.cut
        omega
      · intro p hp y hy
        obtain ⟨p', a, _, _, b⟩ := hkey p hp
        exact h.nums p' a y (b y hy)
      · show ((decO T.opn x.2).map (·.1)).Nodup
        unfold decO
        split
        · exact strike_nodup (putL_nodup h.opnd _ _) _
        · exact putL_nodup h.opnd _ _
      · intro c
        dsimp only
        rw [hdl]
        have h1 := hcnt c
        by_cases e : c = x.2
        · rw [if_pos e]
          rw [if_pos e] at h1
          subst e
          by_cases e1 : cnt T.lanes x.2 = 1
          · rw [if_pos e1, if_neg (by omega)]
          · rw [if_neg e1, if_pos (by omega)]
            congr 1
            omega
        · rw [if_neg e]
          rw [if_neg e, Nat.add_zero] at h1
          rw [h1]
          exact h.opn c
      · intro p hp
        have hp' : p ∈ decO T.opn x.2 := hp
        unfold decO at hp'
        have hv : (look T.opn x.2).getD 0 - 1 ≤ 64 := by
          have := h.opv _ (look_mem hlook)
          rw [hlook]
          simp only [Option.getD_some] at this ⊢
          omega
        split at hp'
        · rcases putL_mem (strike_mem.1 hp').1 with h1 | h1
          · exact h.opv p h1
          · subst h1; exact hv
        · rcases putL_mem hp' with h1 | h1
          · exact h.opv p h1
          · subst h1; exact hv
end Plain
end Go.Proofs.Ytjcndeanojeffaa

/- The plain mathematics of chapter 20: a queue. No program in sight. -/
import Derived.Test.YtjcndeanojeffaaCutPlain2
import Derived.Test.YtjcndeanojeffaaMapL
namespace Go.Proofs.Ytjcndeanojeffaa
namespace Plain
open Go

/-! numbers in their row -/
def insL (s : List Int) (x : Int) : List Int := s.filter (fun y => decide (y < x)) ++ x :: s.filter (fun y => decide (x < y))
def sortL (l : List Int) : List Int := l.foldl insL []
theorem mem_insL {s : List Int} {x y : Int} : y ∈ insL s x ↔ y = x ∨ (y ∈ s) := by
  unfold insL
  rw [List.mem_append, List.mem_cons, List.mem_filter, List.mem_filter]
  simp only [decide_eq_true_eq]
  constructor
  · rintro (⟨a, _⟩ | a | ⟨a, _⟩)
    · exact .inr a
    · exact .inl a
    · exact .inr a
  · rintro (a | a)
    · exact .inr (.inl a)
    · rcases Int.lt_trichotomy y x with h | h | h
      · exact .inl ⟨a, h⟩
      · exact .inr (.inl h)
      · exact .inr (.inr ⟨a, h⟩)
def Up (l : List Int) : Prop := l.Pairwise (· < ·)
theorem insL_up {s : List Int} (h : Up s) (x : Int) : Up (insL s x) := by
  unfold insL Up
  rw [List.pairwise_append]
  refine ⟨h.filter _, ?_, ?_⟩
  · rw [List.pairwise_cons]
    refine ⟨fun y hy => ?_, h.filter _⟩
    have := (List.mem_filter.1 hy).2
    simpa using this
  · intro a ha b hb
    have h1 := (List.mem_filter.1 ha).2
    simp at h1
    rcases List.mem_cons.1 hb with rfl | hb
    · exact h1
    · have h2 := (List.mem_filter.1 hb).2
      simp at h2
      omega
theorem foldl_insL_up : ∀ (l s : List Int), Up s → Up (l.foldl insL s)
  | [], _, h => h
  | x :: l, _, h => foldl_insL_up l _ (insL_up h x)
theorem foldl_insL_mem : ∀ (l s : List Int) (y : Int), y ∈ l.foldl insL s ↔ y ∈ l ∨ y ∈ s
  | [], s, y => by simp
  | x :: l, s, y => by
    rw [List.foldl_cons, foldl_insL_mem l, mem_insL, List.mem_cons]
    constructor
    · rintro (a | a | a)
      · exact .inl (.inr a)
      · exact .inl (.inl a)
      · exact .inr a
    · rintro ((a | a) | a)
      · exact .inr (.inl a)
      · exact .inl a
      · exact .inr (.inr a)
theorem sortL_up (l : List Int) : Up (sortL l) := foldl_insL_up l [] List.Pairwise.nil
theorem mem_sortL {l : List Int} {y : Int} : y ∈ sortL l ↔ y ∈ l := by
  unfold sortL
  rw [foldl_insL_mem]
  simp
theorem up_nodup {l : List Int} (h : Up l) : l.Nodup := h.imp (fun a b => by omega)
/-- two rows of the same numbers. -/
theorem up_unique : ∀ {a b : List Int}, Up a → Up b → (∀ x, x ∈ a ↔ x ∈ b) → a = b
  | [], [], _, _, _ => rfl
  | [], y :: b, _, _, h => by have := (h y).2 List.mem_cons_self; cases this
  | x :: a, [], _, _, h => by have := (h x).1 List.mem_cons_self; cases this
  | x :: a, y :: b, ha, hb, h => by
    obtain ⟨ha1, ha2⟩ := List.pairwise_cons.1 ha
    obtain ⟨hb1, hb2⟩ := List.pairwise_cons.1 hb
    have hxy : x = y := by
      rcases List.mem_cons.1 ((h x).1 List.mem_cons_self) with e | e
      · exact e
      · rcases List.mem_cons.1 ((h y).2 List.mem_cons_self) with e2 | e2
        · exact e2.symm
        · have := hb1 x e
          have := ha1 y e2
          omega
    subst hxy
    congr 1
    refine up_unique ha2 hb2 (fun z => ?_)
    constructor
    · intro hz
      rcases List.mem_cons.1 ((h z).1 (List.mem_cons_of_mem _ hz)) with e | e
      · subst e
        have := ha1 z hz
        omega
      · exact e
    · intro hz
      rcases List.mem_cons.1 ((h z).2 (List.mem_cons_of_mem _ hz)) with e | e
      · subst e
        have := hb1 z hz
        omega
      · exact e
theorem sortL_eq {l l' : List Int} (h : ∀ x, x ∈ l ↔ x ∈ l') : sortL l = sortL l' := up_unique (sortL_up l) (sortL_up l') (fun x => by rw [mem_sortL, mem_sortL, h])
theorem insL_length {s : List Int} {x : Int} (hx : x ∉ s) : (insL s x).length = s.length + 1 := by
  unfold insL
  rw [List.length_append, List.length_cons]
  have : ∀ s : List Int, x ∉ s → (s.filter (fun y => decide (y < x))).length + (s.filter (fun y => decide (x < y))).length = s.length := by
    intro s
    induction s with
    | nil => intro _; rfl
    | cons a s ih =>
      intro hs
      rw [List.mem_cons, not_or] at hs
      have := ih hs.2
      rw [List.filter_cons, List.filter_cons]
      rcases Int.lt_trichotomy a x with h | h | h
      · rw [if_pos (by simpa using h), if_neg (by simp; omega)]
        simp; omega
      · exact absurd h.symm hs.1
      · rw [if_neg (by simp; omega), if_pos (by simpa using h)]
        simp; omega
  have := this s hx
  omega
theorem foldl_insL_length : ∀ (l s : List Int), (l ++ s).Nodup → (l.foldl insL s).length = l.length + s.length
  | [], s, _ => by simp
  | x :: l, s, h => by
    rw [List.cons_append, List.nodup_cons] at h
    have hxs : x ∉ s := fun e => h.1 (List.mem_append_right _ e)
    have hxl : x ∉ l := fun e => h.1 (List.mem_append_left _ e)
    rw [List.foldl_cons, foldl_insL_length l, insL_length hxs, List.length_cons]
    · omega
    · rw [List.nodup_append] at h ⊢
      refine ⟨h.2.1, ?_, fun a ha b hb e => ?_⟩
      · unfold insL
        have hs := h.2.2.1
        rw [List.nodup_append, List.nodup_cons]
        refine ⟨hs.filter _, ⟨fun e => hxs (List.mem_filter.1 e).1, hs.filter _⟩, fun a ha b hb e => ?_⟩
        subst e
        have ha1 := (List.mem_filter.1 ha)
        rcases List.mem_cons.1 hb with rfl | hb
        · exact hxs ha1.1
        · have hb1 := (List.mem_filter.1 hb).2
          have ha2 := ha1.2
          simp at ha2 hb1
          omega
      · subst e
        rcases mem_insL.1 hb with rfl | hb
        · exact hxl ha
        · exact h.2.2.2 a ha a hb rfl
theorem sortL_length {l : List Int} (h : l.Nodup) : (sortL l).length = l.length := by
  unfold sortL
  rw [foldl_insL_length l [] (by simpa using h)]
  rfl

/-! links, and what waits on them -/
structure Lane where
  waits : List (Fr × Int)
  drains : Bool
structure Q where
  size : Int
  short : Bool
  seq : Int
  packs : List ByteArray
  cut : Int
  opn : List (Int × Int)
  lanes : List (Int × Lane)
def updL (l : List (Int × Lane)) (k : Int) (g : Lane → Lane) : List (Int × Lane) := l.map fun p => if p.1 = k then (p.1, g p.2) else p
theorem updL_keys (l : List (Int × Lane)) (k : Int) (g : Lane → Lane) : (updL l k g).map (·.1) = l.map (·.1) := by
  unfold updL
  rw [List.map_map]
  refine List.map_congr_left (fun p _ => ?_)
  show (if p.1 = k then (p.1, g p.2) else p).1 = p.1
  split <;> rfl
theorem updL_length (l : List (Int × Lane)) (k : Int) (g : Lane → Lane) : (updL l k g).length = l.length := by simp [updL]
theorem look_updL (l : List (Int × Lane)) (k : Int) (g : Lane → Lane) (q : Int) : look (updL l k g) q = if q = k then (look l q).map g else look l q := by
  induction l with
  | nil => simp [updL, look_nil]
  | cons a l ih =>
    have e : updL (a :: l) k g = (if a.1 = k then (a.1, g a.2) else a) :: updL l k g := rfl
    rw [e, look_cons, look_cons, ih]
    by_cases c : a.1 = k
    · rw [if_pos c]
      by_cases d : q = k
      · rw [if_pos (by rw [c, d]), if_pos d, if_pos (by rw [c, d])]; rfl
      · rw [if_neg (by rw [c]; exact fun e => d e.symm), if_neg d, if_neg d, if_neg (by rw [c]; exact fun e => d e.symm)]
    · rw [if_neg c]
      by_cases d : q = k
      · subst d
        rw [if_neg c, if_pos rfl, if_pos rfl, if_neg c]
      · rw [if_neg d, if_neg d]
theorem updL_mem {l : List (Int × Lane)} {k : Int} {g : Lane → Lane} {p : Int × Lane} (h : p ∈ updL l k g) : p ∈ l ∨ ∃ L, (k, L) ∈ l ∧ p = (k, g L) := by
  obtain ⟨a, ha, rfl⟩ := List.mem_map.1 h
  by_cases c : a.1 = k
  · rw [if_pos c]
    subst c
    exact .inr ⟨a.2, ha, rfl⟩
  · rw [if_neg c]
    exact .inl ha

/-- how many fragments of a packet wait. -/
def cntW (ws : List (Fr × Int)) (c : Int) : Nat := (ws.filter fun x => x.2 == c).length
def cnt (l : List (Int × Lane)) (c : Int) : Nat := (l.map fun p => cntW p.2.waits c).sum
theorem cntW_snoc (ws : List (Fr × Int)) (f : Fr) (d c : Int) : cntW (ws ++ [(f, d)]) c = cntW ws c + if c = d then 1 else 0 := by
  unfold cntW
  rw [List.filter_append, List.length_append]
  congr 1
  by_cases e : c = d
  · rw [if_pos e]; simp [e]
  · rw [if_neg e]
    have : (d == c) = false := by simp; exact fun h => e h.symm
    simp [this]
theorem cnt_cons (a : Int × Lane) (l : List (Int × Lane)) (c : Int) : cnt (a :: l) c = cntW a.2.waits c + cnt l c := by
  unfold cnt
  rw [List.map_cons, List.sum_cons]
theorem cnt_none {l : List (Int × Lane)} {k : Int} {g : Lane → Lane} (h : look l k = none) : updL l k g = l := by
  unfold updL
  rw [look_none] at h
  calc l.map _ = l.map id := List.map_congr_left (fun p hp => by rw [if_neg (h p hp)]; rfl)
    _ = l := List.map_id _
theorem cnt_updL {l : List (Int × Lane)} (hn : (l.map (·.1)).Nodup) {k : Int} {g : Lane → Lane} {L : Lane} (h : look l k = some L) (c : Int) : cnt (updL l k g) c + cntW L.waits c = cnt l c + cntW (g L).waits c := by
  induction l with
  | nil => cases h
  | cons a l ih =>
    have e : updL (a :: l) k g = (if a.1 = k then (a.1, g a.2) else a) :: updL l k g := rfl
    rw [List.map_cons, List.nodup_cons] at hn
    rw [e, cnt_cons, cnt_cons]
    rw [look_cons] at h
    by_cases d : a.1 = k
    · rw [if_pos d] at h ⊢
      cases h
      have hl : look l k = none := look_none.2 fun p hp e' => hn.1 (List.mem_map.2 ⟨p, hp, by rw [e', d]⟩)
      rw [cnt_none hl]
      show cntW (g a.2).waits c + cnt l c + cntW a.2.waits c = cntW a.2.waits c + cnt l c + cntW (g a.2).waits c
      omega
    · rw [if_neg d] at h ⊢
      have := ih hn.2 h
      omega
theorem cnt_zero {l : List (Int × Lane)} {c : Int} (h : cnt l c = 0) : ∀ p ∈ l, ∀ x ∈ p.2.waits, x.2 ≠ c := by
  induction l with
  | nil => intro p hp; cases hp
  | cons a l ih =>
    rw [cnt_cons] at h
    intro p hp x hx e
    rcases List.mem_cons.1 hp with rfl | hp
    · have h1 : cntW p.2.waits c = 0 := by omega
      unfold cntW at h1
      have := List.eq_nil_of_length_eq_zero h1
      rw [List.filter_eq_nil_iff] at this
      exact this x hx (by simpa using e)
    · exact ih (by omega) p hp x hx e
theorem cnt_pos {l : List (Int × Lane)} {c : Int} {p : Int × Lane} (hp : p ∈ l) {x : Fr × Int} (hx : x ∈ p.2.waits) (hc : x.2 = c) : 0 < cnt l c := by
  rcases Nat.eq_zero_or_pos (cnt l c) with h | h
  · exact absurd hc (cnt_zero h p hp x hx)
  · exact h
theorem cnt_append (l l' : List (Int × Lane)) (c : Int) : cnt (l ++ l') c = cnt l c + cnt l' c := by
  unfold cnt
  rw [List.map_append, List.sum_append]
theorem cnt_strike {l : List (Int × Lane)} (hn : (l.map (·.1)).Nodup) {k : Int} {L : Lane} (h : look l k = some L) (hw : L.waits = []) (c : Int) : cnt (strike l k) c = cnt l c := by
  induction l with
  | nil => cases h
  | cons a l ih =>
    rw [List.map_cons, List.nodup_cons] at hn
    rw [look_cons] at h
    by_cases d : a.1 = k
    · rw [if_pos d] at h
      cases h
      have hl : look l k = none := look_none.2 fun p hp e' => hn.1 (List.mem_map.2 ⟨p, hp, by rw [e', d]⟩)
      have : strike (a :: l) k = strike l k := by simp [strike, d]
      rw [this, strike_none hl, cnt_cons, hw]
      simp [cntW]
    · rw [if_neg d] at h
      have : strike (a :: l) k = a :: strike l k := by simp [strike, d]
      rw [this, cnt_cons, cnt_cons, ih hn.2 h]

/-! what is done -/
def Q.cutSize (S : Q) (s : ByteArray) : Int := max S.size (((s.size : Int) + 63) / 64)
def Q.many (S : Q) (s : ByteArray) : Nat := (s.size + (S.cutSize s).toNat - 1) / (S.cutSize s).toNat
def Q.frag (S : Q) (s : ByteArray) (i : Nat) : Fr := fr s (fun _ => S.cutSize s) 1 S.seq (ring S.short) i
def Q.free (S : Q) : List Int := (S.lanes.filter fun p => !p.2.drains).map (·.1)
def Q.row (S : Q) (link : Int) : List Int := sortL (S.free.filter fun k => !decide (k < link)) ++ sortL (S.free.filter fun k => decide (k < link))
def giveN (row : List Int) (c : Int) (F : Nat → Fr) (l : List (Int × Lane)) : Nat → List (Int × Lane)
  | 0 => l
  | i + 1 => updL (giveN row c F l i) (row.getD (i % row.length) 0) fun L => { L with waits := L.waits ++ [(F i, c)] }
def Q.dealt (S : Q) (link : Int) (s : ByteArray) (rest : List ByteArray) : Q :=
  { S with lanes := giveN (S.row link) S.cut (S.frag s) S.lanes (S.many s), opn := putL S.opn S.cut (S.many s), cut := S.cut + 1, packs := rest, seq := (S.seq + S.many s) % ring S.short }
def Q.deal (S : Q) (link : Int) : Q := match S.packs with | [] => S | s :: rest => S.dealt link s rest
def Q.lane (S : Q) (k : Int) : Option Lane := look S.lanes k
def Q.takeE (S : Q) (k : Int) : Int := match S.lane k with | none => 2002 | some L => if L.waits = [] ∧ (L.drains = true ∨ S.packs = []) then 2003 else 0
/-- what lies ready before the first is taken. -/
def Q.ready (S : Q) (k : Int) : Q := match S.lane k with | none => S | some L => if L.waits = [] then S.deal k else S
def decO (l : List (Int × Int)) (c : Int) : List (Int × Int) := if (look l c).getD 0 - 1 = 0 then strike (putL l c ((look l c).getD 0 - 1)) c else putL l c ((look l c).getD 0 - 1)
def Q.pop (T : Q) (k : Int) : Q := match T.lane k with | some ⟨x :: ws, _⟩ => { T with lanes := updL T.lanes k (fun L => { L with waits := ws }), opn := decO T.opn x.2 } | _ => T
def zeroFr : Fr := ⟨false, false, 0, ⟨#[]⟩⟩
def Q.head (T : Q) (k : Int) : Fr := match T.lane k with | some ⟨x :: _, _⟩ => x.1 | _ => zeroFr
def Q.takeS (S : Q) (k : Int) : Q := if S.takeE k = 0 then (S.ready k).pop k else S
def Q.takeF (S : Q) (k : Int) : Fr := if S.takeE k = 0 then (S.ready k).head k else zeroFr
def Q.len (S : Q) : Nat := S.packs.length + S.opn.length
def Q.waits (S : Q) (k : Int) : Nat := match S.lane k with | none => 0 | some L => L.waits.length
def Q.addE (S : Q) (k : Int) : Int := if k < 0 ∨ (S.lane k).isSome = true then 2000 else if 8 ≤ S.lanes.length then 2001 else 0
def Q.addS (S : Q) (k : Int) : Q := if S.addE k = 0 then { S with lanes := S.lanes ++ [(k, ⟨[], false⟩)] } else S
def Q.drainE (S : Q) (k : Int) : Int := if (S.lane k).isSome = true then 0 else 2002
def Q.drainS (S : Q) (k : Int) : Q := { S with lanes := updL S.lanes k fun L => { L with drains := true } }
def Q.dropE (S : Q) (k : Int) : Int := match S.lane k with | none => 2002 | some L => if L.waits = [] then 0 else 2003
def Q.dropS (S : Q) (k : Int) : Q := if S.dropE k = 0 then { S with lanes := strike S.lanes k } else S
def Q.submitE (S : Q) (s : ByteArray) : Int := if s.size < 1 ∨ 1500 < s.size then 2000 else if 64 ≤ S.len then 2001 else 0
def Q.submitS (S : Q) (s : ByteArray) : Q := if S.submitE s = 0 then { S with packs := S.packs ++ [s] } else S
def Q.new (size : Int) (short : Bool) : Q := ⟨size, short, 0, [], 0, [], []⟩

/-- what every queue is. -/
structure Q.Ok (S : Q) : Prop where
  size0 : 1 ≤ S.size
  size1 : S.size ≤ 1500
  seq0 : 0 ≤ S.seq
  seq1 : S.seq < ring S.short
  packs : ∀ s ∈ S.packs, 1 ≤ s.size ∧ s.size ≤ 1500
  len64 : S.packs.length + S.opn.length ≤ 64
  nodup : (S.lanes.map (·.1)).Nodup
  keys : ∀ p ∈ S.lanes, 0 ≤ p.1 ∧ p.1 ≤ 9223372036854775807
  lanes8 : S.lanes.length ≤ 8
  cut0 : 0 ≤ S.cut
  cut1 : S.cut + S.packs.length ≤ 1000000
  waits : ∀ p ∈ S.lanes, (p.2.waits.length : Int) ≤ 64 * S.cut
  nums : ∀ p ∈ S.lanes, ∀ x ∈ p.2.waits, 0 ≤ x.2 ∧ x.2 < S.cut
  opnd : (S.opn.map (·.1)).Nodup
  opn : ∀ c, look S.opn c = if 0 < cnt S.lanes c then some (cnt S.lanes c : Int) else none
  opv : ∀ p ∈ S.opn, p.2 ≤ 64
end Plain
end Go.Proofs.Ytjcndeanojeffaa
